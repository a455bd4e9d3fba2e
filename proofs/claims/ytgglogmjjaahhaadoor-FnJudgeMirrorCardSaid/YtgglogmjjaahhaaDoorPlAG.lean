/- Plain laws: rulesets with one rule more, rulesets turned round. -/
import Derived.Test.YtgglogmjjaahhaaDoorPlAE
namespace Go.PF.F
open Go Go.PF

/-! Turned round. -/
theorem flipR_pos {r : Rule} (h : r.Action ≤ 2) : flipR r = { r with Action := 3 - r.Action } := by unfold flipR; rw [if_pos h]
theorem flipR_neg {r : Rule} (h : ¬ r.Action ≤ 2) : flipR r = r := by unfold flipR; rw [if_neg h]
theorem flip_step {rs : List Rule} {k : Nat} (hk : k < rs.length) : (rs.take k).map flipR ++ rs.drop k = (rs.take k).map flipR ++ rs[k] :: rs.drop (k + 1) := by rw [List.drop_eq_getElem_cons hk]
theorem flip_next {rs : List Rule} {k : Nat} (hk : k < rs.length) : (rs.take (k + 1)).map flipR ++ rs.drop (k + 1) = (rs.take k).map flipR ++ flipR rs[k] :: rs.drop (k + 1) := by
  rw [take_snoc (List.getElem?_eq_getElem hk), List.map_append, List.append_assoc]; rfl
theorem set_mid {α : Type} {a b : List α} {x y : α} {k : Nat} (h : a.length = k) : (a ++ x :: b).set k y = a ++ y :: b := by subst h; simp
theorem flip_loop {rs : List Rule} (hv : RsV rs) (y : List (List Rule)) : loopF laws_FnJudgeMirror_L1 100 (0, rs, y) = some (.brk ((rs.length : Int), rs.map flipR, y)) := by
  have hl := hv.2
  have hlen : ∀ k, ((rs.take k).map flipR ++ rs.drop k).length = rs.length := fun k => by
    rw [List.length_append, List.length_map, List.length_take, List.length_drop]; omega
  refine loop_brk0 (body := laws_FnJudgeMirror_L1) rs.length (fun k : Nat => ((k : Int), (rs.take k).map flipR ++ rs.drop k, y)) rfl (fun k hk => ?_) ?_ (by omega)
  · have ha := (hv.1 _ (List.getElem_mem hk)).2.1
    have htk : ((rs.take k).map flipR).length = k := by rw [List.length_map, List.length_take]; omega
    have hget : idx ((rs.take k).map flipR ++ rs.drop k) (k : Int) = some rs[k] := by
      rw [idx_nat, flip_step hk, List.getElem?_append_right (by omega), htk, Nat.sub_self]; rfl
    unfold laws_FnJudgeMirror_L1
    simp only [hlen, lt_true (show (k : Int) < (rs.length : Int) by omega), cond_true, hget, Option.bind_some, W_succ (show k < 9223372036854775807 by omega)]
    rw [flip_next hk]
    by_cases h2 : rs[k].Action ≤ 2
    · rw [decide_eq_true h2, cond_true, flipR_pos h2, W_of (by omega) (by omega), flip_step hk, Int.toNat_natCast, set_mid htk]
    · rw [decide_eq_false h2, cond_false, flipR_neg h2, ← flip_step hk]
  · unfold laws_FnJudgeMirror_L1
    simp only [List.take_length, List.drop_length, List.append_nil, List.length_map, lt_false (Int.le_refl _), cond_false]
theorem wa_flip {cs : List (List Rule)} (hb : CB cs) (p : Packet) : ∀ f c, wa (cs.map fun rs => rs.map flipR) p f c = flipA (wa cs p f c)
  | 0, _ => rfl
  | f + 1, c => by
    show waL p _ (ch (cs.map fun rs => rs.map flipR) c) = flipA (waL p _ (ch cs c))
    rcases Nat.lt_or_ge c cs.length with hc | hc
    · rw [ch_map _ hc]
      exact waL_flip p (fun d => wa_flip hb p f d) (fun d => wa_ok cs p f d) _ fun r hr => ((hb.rv _ (ch_mem hc)).1 r hr).2.1
    · rw [ch_out hc, ch_out (by rw [List.length_map]; exact hc)]; rfl
theorem rsv_flip {s : Ruleset} (h : RSV s) (b : Bool) : RSV ⟨s.Chains.map fun rs => rs.map flipR, b⟩ := by
  have hb := h.1
  refine ⟨hb.map (fun rs hrs => ⟨fun r hr => ?_, ?_⟩) (fun rs hrs r hr => ?_), fun c hc => ?_⟩
  · obtain ⟨x, hx, rfl⟩ := List.mem_map.1 hr
    have hv := (hb.rv rs hrs).1 x hx
    by_cases h2 : x.Action ≤ 2
    · rw [flipR_pos h2]
      have := hv.2
      exact ⟨hv.1, by simp only; omega, .inr ⟨by simp only; omega, by simp only; omega⟩⟩
    · rw [flipR_neg h2]; exact hv
  · rw [List.length_map]; exact (hb.rv rs hrs).2
  · obtain ⟨x, hx, rfl⟩ := List.mem_map.1 hr
    have := hb.lt rs hrs x hx
    by_cases h2 : x.Action ≤ 2
    · rw [flipR_pos h2]; exact this
    · rw [flipR_neg h2]; exact this
  · simp only [List.length_map] at hc
    refine ends_sub (fun c d hd => ?_) (h.2 c hc)
    have hd : called (ch (s.Chains.map fun rs => rs.map flipR) c) d = true := hd
    rcases Nat.lt_or_ge c s.Chains.length with hcl | hcl
    · rw [ch_map _ hcl, called_flip _ fun r hr => ((hb.rv _ (ch_mem hcl)).1 r hr).2.1.1] at hd
      exact hd
    · rw [ch_out (by rw [List.length_map]; exact hcl)] at hd; cases hd
theorem plain_FnJudgeMirror (code : List Int) (g : GAll GU8 code) : laws_FnJudgeMirror code = some true := by
  unfold laws_FnJudgeMirror
  refine draw_guard fun _ => ?_
  obtain ⟨s, q, e, hs⟩ := draw_case g
  obtain ⟨r, e1, e2, h1, h2⟩ := judge_is hs.ok q
  obtain ⟨v, e3, hv⟩ := spec_ruleset hs.ok
  obtain ⟨w, e4, hw⟩ := spec_packet q
  have h3 := hs.1
  rw [e]
  simp only [Option.bind_some, e1, e2, bne_self_eq_false, cond_false, e3, e4, alive_is]
  cases v with
  | false => rw [h2 fun h => by simpa using hv.2 h.1]; rfl
  | true =>
    cases w with
    | false => rw [h2 fun h => by simpa using hw.2 h.2]; rfl
    | true =>
      have hr := hv.1 rfl
      rw [cond_true, cond_true]
      have eo : loopF (laws_FnJudgeMirror_L0 (s, q)) ((((s.Chains.length : Int)) - 0).toNat.succ) (0, []) = some (.brk ((s.Chains.length : Int), s.Chains.map fun rs => rs.map flipR)) := by
        refine loop_brk0 (body := laws_FnJudgeMirror_L0 (s, q)) s.Chains.length (fun k : Nat => ((k : Int), (s.Chains.take k).map fun rs => rs.map flipR)) rfl (fun k hk => ?_) ?_ (by omega)
        · have hrv := hr.1.rv _ (ch_mem hk)
          have hl := hrv.2
          unfold laws_FnJudgeMirror_L0
          simp only [lt_true (show (k : Int) < (s.Chains.length : Int) by omega), cond_true, ch_idx hk, Option.bind_some, app_ok (show ([] : List Rule).length + (ch s.Chains k).length ≤ 4294967296 by simp; omega), List.nil_append, flip_loop hrv, LR.on, W_succ (show k < 9223372036854775807 by omega)]
          rw [app_ok (by simp; omega), Option.bind_some, take_snoc (ch_get hk), List.map_append]; rfl
        · unfold laws_FnJudgeMirror_L0
          simp only [lt_false (Int.le_refl _), cond_false, List.take_length]
      rw [eo, Option.bind_some]
      simp only [LR.on]
      have hok : OkRs ⟨s.Chains.map fun rs => rs.map flipR, !s.Accept⟩ := by
        refine ⟨by simp only [List.length_map]; omega, fun rs hrs => ?_⟩
        obtain ⟨y, hy, rfl⟩ := List.mem_map.1 hrs
        refine ⟨by rw [List.length_map]; exact (hs.ok.2 y hy).1, fun r hr => ?_⟩
        obtain ⟨x, hx, rfl⟩ := List.mem_map.1 hr
        have := (hs.ok.2 y hy).2 x hx
        by_cases h2 : x.Action ≤ 2
        · rw [flipR_pos h2]; exact this
        · rw [flipR_neg h2]; exact this
      obtain ⟨x, _, ex, hx, _⟩ := judge_is hok q
      rw [ex, Option.bind_some, hx (rsv_flip hr _) (hw.1 rfl), h1 hr (hw.1 rfl), judgeB_wa, judgeB_wa]
      simp only [wa_flip hr.1]
      rcases wa_ok s.Chains q 5 0 with h | h | h <;> rw [h]
      · rfl
      · rfl
      · show some ((if flipA 5 = 1 then true else if flipA 5 = 2 then false else !s.Accept) == !s.Accept) = some true
        rw [show flipA 5 = 5 from rfl, if_neg (by decide), if_neg (by decide), beq_self_eq_true]
end Go.PF.F
