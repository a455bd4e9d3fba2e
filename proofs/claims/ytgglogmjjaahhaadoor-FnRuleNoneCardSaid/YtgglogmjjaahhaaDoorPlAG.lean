/- Plain laws: rulesets with one rule more, rulesets turned round. -/
import Derived.Test.YtgglogmjjaahhaaDoorPlAE
namespace Go.PF.F
open Go Go.PF

theorem rsv_set {cs : List (List Rule)} {a : Bool} (h : RSV ⟨cs, a⟩) {i : Nat} (hi : i < cs.length) {rs : List Rule} (hv : RsV rs) (hl : ∀ r ∈ rs, r.Chain < (cs.length : Int)) (hc : ∀ d, called rs d = true → called (ch cs i) d = true) (b : Bool) : RSV ⟨cs.set i rs, b⟩ := by
  refine ⟨h.1.set hv hl, fun c hcl => ?_⟩
  rw [List.length_set] at hcl
  refine ends_sub (fun c d hd => ?_) (h.2 c hcl)
  have hd : called (ch (cs.set i rs) c) d = true := hd
  rw [ch_set hi] at hd
  show called (ch cs c) d = true
  split at hd
  · rename_i e; rw [e]; exact hc d hd
  · exact hd
theorem ok_set {s : Ruleset} (hs : RsSm s) {i : Nat} {rs : List Rule} (hl : rs.length ≤ 1000) (ht : ∀ r ∈ rs, r.Tests.length ≤ 1000) (b : Bool) : OkRs ⟨s.Chains.set i rs, b⟩ := by
  refine ⟨by simp only [List.length_set]; have := hs.1; omega, fun x hx => ?_⟩
  rcases List.mem_or_eq_of_mem_set hx with h | rfl
  · exact hs.ok.2 x h
  · exact ⟨by omega, fun r hr => by have := ht r hr; omega⟩
/-- One rule more at the beginning of chain 0. -/
theorem more_one {s : Ruleset} (h : RSV s) {a : Int} (ha : 1 ≤ a ∧ a ≤ 5 ∧ a ≠ 3) (hlen : (ch s.Chains 0).length ≠ 8) (b : Bool) : RSV ⟨s.Chains.set 0 ([({ Tests := [], Action := a, Chain := 0 } : Rule)] ++ ch s.Chains 0), b⟩ := by
  have hb := h.1
  have h1 := hb.n1
  have hv := hb.rv _ (ch_mem h1)
  refine rsv_set (a := s.Accept) h h1 ⟨fun r hr => ?_, ?_⟩ (fun r hr => ?_) (fun d hd => ?_) b
  · rcases List.mem_append.1 hr with hr | hr
    · rw [List.mem_singleton.1 hr]; exact ⟨⟨by simp, by simp⟩, ⟨ha.1, ha.2.1⟩, .inr ⟨ha.2.2, rfl⟩⟩
    · exact hv.1 r hr
  · have := hv.2
    rw [List.length_append, List.length_singleton]; omega
  · rcases List.mem_append.1 hr with hr | hr
    · rw [List.mem_singleton.1 hr]; simp only; omega
    · exact hb.lt _ (ch_mem h1) r hr
  · rw [List.singleton_append, called_cons_no (by simpa using ha.2.2)] at hd; exact hd
theorem more_ok {s : Ruleset} (hs : RsSm s) (a : Int) (b : Bool) : OkRs ⟨s.Chains.set 0 ([({ Tests := [], Action := a, Chain := 0 } : Rule)] ++ ch s.Chains 0), b⟩ := by
  have hch : (ch s.Chains 0).length ≤ 11 ∧ ∀ r ∈ ch s.Chains 0, r.Tests.length ≤ 7 := by
    rcases Nat.lt_or_ge 0 s.Chains.length with h | h
    · exact hs.2 _ (ch_mem h)
    · rw [ch_out h]; simp
  refine ok_set hs (by rw [List.length_append, List.length_singleton]; omega) (fun r hr => ?_) b
  rcases List.mem_append.1 hr with hr | hr
  · rw [List.mem_singleton.1 hr]; simp
  · have := hch.2 r hr; omega
theorem plain_FnRuleNone (code : List Int) (g : GAll GU8 code) : laws_FnRuleNone code = some true := by
  unfold laws_FnRuleNone
  refine draw_guard fun _ => ?_
  obtain ⟨s, q, e, hs⟩ := draw_case g
  obtain ⟨r, e1, e2, h1, h2⟩ := judge_is hs.ok q
  obtain ⟨v, e3, hv⟩ := spec_ruleset hs.ok
  rw [e]
  simp only [Option.bind_some, e1, e2, bne_self_eq_false, cond_false, e3, alive_is]
  cases v with
  | false => rfl
  | true =>
    have hr := hv.1 rfl
    have hn := hr.1.n1
    have h3 := hs.1
    have hl := (hr.1.rv _ (ch_mem hn)).2
    have hne : s.Chains ≠ [] := fun e => by rw [e] at hn; simp at hn
    have h00 : idx s.Chains 0 = some (ch s.Chains 0) := ch_idx hn
    rw [cond_true, h00, Option.bind_some]
    by_cases h8 : (ch s.Chains 0).length = 8
    · rw [show (((ch s.Chains 0).length : Int) == 8) = true from by simp [h8]]; rfl
    · rw [show (((ch s.Chains 0).length : Int) == 8) = false from by simp; omega, cond_false, neF_ok hne, Option.bind_some, app_ok (by simp; omega), Option.bind_some, List.nil_append, app_ok (by simp; omega), Option.bind_some, h00, Option.bind_some]
      have hx := more_one hr (a := 5) (by decide) h8 s.Accept
      have es := judge_same hs.ok (more_ok hs 5 s.Accept) q ⟨fun _ => hx, fun _ => hr⟩ (fun _ _ => by
        rw [judgeB_wa, judgeB_wa]
        have hwa : ∀ f c, wa (s.Chains.set 0 ([({ Tests := [], Action := 5, Chain := 0 } : Rule)] ++ ch s.Chains 0)) q f c = wa s.Chains q f c :=
          wa_rel (R := id) rfl fun rec rec' h c => by
            have : rec' = rec := funext h
            subst this
            rw [ch_set hn]
            by_cases hc : c = 0
            · rw [if_pos hc, hc]; exact waL_none q _ _
            · rw [if_neg hc]; rfl
        simp only [hwa]) e2
      rw [show (0 : Int).toNat = 0 from rfl, es, Option.bind_some, beq_self_eq_true]

/-! Turned round. -/
end Go.PF.F
