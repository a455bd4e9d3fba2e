/- Plain laws: laws of drawn rulesets. -/
import Derived.Test.YtgglogmjjaahhaaDoorPlAC
namespace Go.PF.F
open Go Go.PF

/-! Decisions. -/
theorem waL_has {p : Packet} {rec : Nat → Int} {a : Int} (ha : a ≠ 5) : ∀ {rs : List Rule}, waL p rec rs = a → (∃ r ∈ rs, r.Action = a) ∨ ∃ d, rec d = a
  | [], h => absurd h.symm ha
  | r :: rs, h => by
    have ih := @waL_has p rec a ha rs
    have up : (∃ r ∈ rs, r.Action = a) ∨ (∃ d, rec d = a) → (∃ x ∈ r :: rs, x.Action = a) ∨ ∃ d, rec d = a := fun h => h.imp (fun ⟨x, hx, e⟩ => ⟨x, List.mem_cons_of_mem _ hx, e⟩) id
    unfold waL at h
    by_cases hh : holdB p r = true
    · rw [if_pos hh] at h
      by_cases a1 : r.Action = 1
      · rw [if_pos a1] at h; exact .inl ⟨r, List.mem_cons_self .., a1.trans h⟩
      rw [if_neg a1] at h
      by_cases a2 : r.Action = 2
      · rw [if_pos a2] at h; exact .inl ⟨r, List.mem_cons_self .., a2.trans h⟩
      rw [if_neg a2] at h
      by_cases a4 : r.Action = 4
      · rw [if_pos a4] at h; exact absurd h.symm ha
      rw [if_neg a4] at h
      by_cases a3 : r.Action = 3
      · rw [if_pos a3] at h
        by_cases h5 : rec r.Chain.toNat = 5
        · rw [if_pos h5] at h; exact up (ih h)
        · rw [if_neg h5] at h; exact .inr ⟨_, h⟩
      · rw [if_neg a3] at h; exact up (ih h)
    · rw [if_neg hh] at h; exact up (ih h)
theorem wa_has {cs : List (List Rule)} {p : Packet} {a : Int} (ha : a ≠ 5) : ∀ {f c : Nat}, wa cs p f c = a → ∃ c, ∃ r ∈ ch cs c, r.Action = a
  | 0, _, h => absurd h.symm ha
  | f + 1, c, h => (waL_has ha h).elim (fun ⟨r, hr, e⟩ => ⟨c, r, hr, e⟩) fun ⟨_, h⟩ => wa_has ha h
def accB (s : Ruleset) : Bool := s.Chains.any fun rs => rs.any fun r => r.Action == 1
theorem acc_inner {s : Ruleset} (q : Packet) {c : Nat} (hc : c < s.Chains.length) (hl : (ch s.Chains c).length ≤ 11) (y0 : Bool) :
    loopF (laws_FnJudgedBy_L1 (s, q) (c : Int)) ((((ch s.Chains c).length : Int)) - 0).toNat.succ (y0, 0) = some (.brk ((y0 || (ch s.Chains c).any fun r => r.Action == 1), ((ch s.Chains c).length : Int))) := by
  refine loop_brk0 (body := laws_FnJudgedBy_L1 (s, q) (c : Int)) (ch s.Chains c).length (fun k : Nat => ((y0 || ((ch s.Chains c).take k).any fun r => r.Action == 1), (k : Int))) (by simp) (fun k hk => ?_) ?_ (by omega)
  · unfold laws_FnJudgedBy_L1
    simp only [ch_idx hc, Option.bind_some, lt_true (show (k : Int) < ((ch s.Chains c).length : Int) by omega), cond_true, idx_get hk, W_succ (show k < 9223372036854775807 by omega)]
    rw [take_snoc (List.getElem?_eq_getElem hk), List.any_append]
    cases hy : (y0 || ((ch s.Chains c).take k).any fun r => r.Action == 1) with
    | true => rw [cond_true, ← Bool.or_assoc, hy]; rfl
    | false => rw [cond_false, ← Bool.or_assoc, hy]; simp
  · unfold laws_FnJudgedBy_L1
    simp only [ch_idx hc, Option.bind_some, lt_false (Int.le_refl _), cond_false, List.take_length]
theorem plain_FnJudgedBy (code : List Int) (g : GAll GU8 code) : laws_FnJudgedBy code = some true := by
  unfold laws_FnJudgedBy
  refine draw_guard fun _ => ?_
  obtain ⟨s, q, e, hs⟩ := draw_case g
  have e : spec_DrawJudgedBy code = some (s, q) := e
  obtain ⟨r, e1, e2, h1, h2⟩ := judged_is hs.ok q
  obtain ⟨v, e3, hv⟩ := spec_ruleset hs.ok
  obtain ⟨w, e4, hw⟩ := spec_packet q
  have hlen := hs.1
  have eo : loopF (laws_FnJudgedBy_L0 (s, q)) ((((s.Chains.length : Int)) - 0).toNat.succ) (false, 0) = some (.brk (accB s, (s.Chains.length : Int))) := by
    refine loop_brk0 (body := laws_FnJudgedBy_L0 (s, q)) s.Chains.length (fun k : Nat => (((s.Chains.take k).any fun rs => rs.any fun r => r.Action == 1), (k : Int))) (by simp) (fun k hk => ?_) ?_ (by omega)
    · have hl := (hs.2 _ (ch_mem hk)).1
      unfold laws_FnJudgedBy_L0
      simp only [lt_true (show (k : Int) < (s.Chains.length : Int) by omega), cond_true, ch_idx hk, Option.getD_some, acc_inner q hk hl, Option.bind_some, LR.on, W_succ (show k < 9223372036854775807 by omega)]
      rw [take_snoc (ch_get hk), List.any_append]
      simp
    · unfold laws_FnJudgedBy_L0
      simp only [lt_false (Int.le_refl _), cond_false, List.take_length]; rfl
  rw [e]
  simp only [Option.bind_some, e1, e2, bne_self_eq_false, cond_false, eo, LR.on, e3, e4, alive_is]
  by_cases hall : RSV s ∧ PV q
  · have hr := h1 hall.1 hall.2
    rw [show v = true from hv.2 hall.1, show w = true from hw.2 hall.2]
    rcases (judge_ok s q).1 with h | h | h
    · have hacc : accB s = true := by
        rw [judge_act] at h
        obtain ⟨c, x, hx, hxa⟩ := wa_has (by decide) h
        have hc : c < s.Chains.length := by
          rcases Nat.lt_or_ge c s.Chains.length with h | h
          · exact h
          · rw [ch_out h] at hx; cases hx
        unfold accB
        rw [List.any_eq_true]
        exact ⟨_, ch_mem hc, List.any_eq_true.2 ⟨x, hx, by simp [hxa]⟩⟩
      rw [hr, h, hacc]; rfl
    · rw [hr, h]; cases accB s <;> rfl
    · rw [hr, h]; cases accB s <;> rfl
  · rw [h2 hall]
    cases v with
    | false => cases accB s <;> rfl
    | true =>
      have : w = false := by rw [Bool.eq_false_iff]; exact fun h => hall ⟨hv.1 rfl, hw.1 h⟩
      subst this
      cases accB s <;> rfl

/-! Traces. -/
/-! A ruleset that is changed. -/
end Go.PF.F
