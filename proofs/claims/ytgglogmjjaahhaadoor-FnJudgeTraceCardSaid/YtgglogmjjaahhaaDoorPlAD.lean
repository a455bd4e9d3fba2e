/- Plain laws: laws of drawn rulesets. -/
import Derived.Test.YtgglogmjjaahhaaDoorPlAC
namespace Go.PF.F
open Go Go.PF

/-! Decisions. -/
/-! Traces. -/
theorem trace_is {s : Ruleset} (hs : OkRs s) (p : Packet) : ∃ t, spec_JudgeTrace s p = some t ∧ impl_JudgeTrace s p = some t ∧ (RSV s → PV p → t = (judge s p).2) ∧ (¬ (RSV s ∧ PV p) → t = []) := by
  obtain ⟨v, e1, e2, hv⟩ := (spec_ruleset hs).same (impl_ruleset hs)
  obtain ⟨q, e3, e4, hq⟩ := (spec_packet p).same (impl_packet p)
  unfold spec_JudgeTrace impl_JudgeTrace
  rw [e1, e2, Option.bind_some, Option.bind_some, e3, e4]
  cases v with
  | false => exact ⟨[], rfl, rfl, fun h => by simpa using hv.2 h, fun _ => rfl⟩
  | true =>
    cases q with
    | false => exact ⟨[], rfl, rfl, fun _ h => by simpa using hq.2 h, fun _ => rfl⟩
    | true =>
      obtain ⟨stk, e5⟩ := impl_judge (hv.1 rfl) p
      refine ⟨(judge s p).2, ?_, ?_, fun _ _ => rfl, fun h => absurd ⟨hv.1 rfl, hq.1 rfl⟩ h⟩
      · simp only [cond_true, Option.bind_some, spec_judge (hv.1 rfl) (hq.1 rfl)]
      · simp only [cond_true, Option.bind_some, e5]
theorem plain_FnJudgeTrace (code : List Int) (g : GAll GU8 code) : laws_FnJudgeTrace code = some true := by
  unfold laws_FnJudgeTrace
  refine draw_guard fun _ => ?_
  obtain ⟨s, q, e, hs⟩ := draw_case g
  have e : spec_DrawJudgeTrace code = some (s, q) := e
  obtain ⟨r, e1, e2, h1, h2⟩ := judged_is hs.ok q
  obtain ⟨t, e3, e4, h3, h4⟩ := trace_is hs.ok q
  rw [e]
  simp only [Option.bind_some, e2, e3, e4, bne_self_eq_false, cond_false, alive_is]
  by_cases hall : RSV s ∧ PV q
  · have hr := h1 hall.1 hall.2
    have ht := h3 hall.1 hall.2
    obtain ⟨hvo, hlast⟩ := judge_trace hall.1 q
    have hlen : t.length ≤ 200 := by rw [ht]; exact (judge_ok s q).2
    have eo : loopF (laws_FnJudgeTrace_L0 (s, q) t t) ((((t.length : Int)) - 0).toNat.succ) 0 = some (.brk (t.length : Int)) := by
      refine loop_brk0 (body := laws_FnJudgeTrace_L0 (s, q) t t) t.length (fun k : Nat => (k : Int)) rfl (fun k hk => ?_) ?_ (by omega)
      · have hm : t[k] ∈ (judge s q).2 := by rw [← ht]; exact List.getElem_mem hk
        obtain ⟨⟨c, j, x, hx, hc, hj, hh⟩, _⟩ := hvo _ hm
        have hjl : j < (ch s.Chains c).length := (List.getElem?_eq_some_iff.1 hj).1
        have hin : x ∈ ch s.Chains c := List.mem_of_getElem? hj
        have hru := (hall.1.1.rv _ (ch_mem hc)).1 _ hin
        obtain ⟨b, eb, hb⟩ := impl_fits (r := x) (by have := hru.1.2; omega) q
        have hbt : b = true := hb.2 ⟨hru, hall.2, holdB_iff.1 hh⟩
        subst hbt
        have hjx : idx (ch s.Chains c) (j : Int) = some x := by rw [idx_nat]; exact hj
        unfold laws_FnJudgeTrace_L0
        simp only [lt_true (show (k : Int) < (t.length : Int) by omega), cond_true, idx_get hk, Option.bind_some, decide_true, Bool.not_true, cond_false, hx, ch_idx hc, hjx, eb, W_succ (show k < 9223372036854775807 by omega)]
        rw [decide_eq_false (by omega : ¬ ((c : Int) < 0)), decide_eq_false (by omega : ¬ ((s.Chains.length : Int) ≤ (c : Int))), decide_eq_false (by omega : ¬ ((j : Int) < 0)), decide_eq_false (by omega : ¬ (((ch s.Chains c).length : Int) ≤ (j : Int)))]
        rfl
      · unfold laws_FnJudgeTrace_L0
        simp only [lt_false (Int.le_refl _), cond_false]
    simp only [eo, LR.on, Option.bind_some]
    have fin : ∀ a : Int, a = 1 ∨ a = 2 → r = a → (bif ((t.length : Int) == 200) then (some true : Option Bool) else bif ((t.length : Int) == 0) then some false else
        (idx t (W ((t.length : Int) - 1))).bind fun x => (idx s.Chains x.Chain).bind fun y => (idx y x.Place).bind fun z => some (z.Action == r)) = some true := by
      intro a ha hra
      by_cases h200 : t.length = 200
      · rw [show ((t.length : Int) == 200) = true from by simp [h200]]; rfl
      · rw [show ((t.length : Int) == 200) = false from by simp; omega, cond_false]
        have hl := hlast (by rw [← hr, hra]; exact ha) (by rw [← ht]; omega)
        obtain ⟨c, k, x, hgl, hk, hact⟩ := hl
        rw [← ht] at hgl
        have hpos : 0 < t.length := by
          rcases Nat.eq_zero_or_pos t.length with h | h
          · rw [List.eq_nil_of_length_eq_zero h] at hgl; cases hgl
          · exact h
        rw [show ((t.length : Int) == 0) = false from by simp; exact List.ne_nil_of_length_pos hpos, cond_false, W_of (by omega) (by omega), show (t.length : Int) - 1 = ((t.length - 1 : Nat) : Int) by omega, idx_nat]
        rw [List.getLast?_eq_getElem?] at hgl
        rw [hgl, Option.bind_some]
        have hc : c < s.Chains.length := by
          rcases Nat.lt_or_ge c s.Chains.length with h | h
          · exact h
          · rw [ch_out h] at hk; cases hk
        simp only [ch_idx hc, Option.bind_some]
        rw [idx_nat, hk, Option.bind_some, hact, hr]; simp
    rcases (judge_ok s q).1 with h | h | h
    · rw [← hr] at h
      have := fin 1 (.inl rfl) h
      rw [h] at this ⊢
      exact this
    · rw [← hr] at h
      have := fin 2 (.inr rfl) h
      rw [h] at this ⊢
      exact this
    · rw [hr, h]; rfl
  · rw [h2 hall, h4 hall]; rfl

/-! A ruleset that is changed. -/
end Go.PF.F
