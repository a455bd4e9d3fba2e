/- Plain laws: laws of drawn rulesets. -/
import Derived.Test.YtgglogmjjaahhaaDoorPlAC
namespace Go.PF.F
open Go Go.PF

/-! Decisions. -/
/-! Traces. -/
/-! A ruleset that is changed. -/
theorem judgeB_wa (s : Ruleset) (p : Packet) : judgeB s p = if wa s.Chains p 5 0 = 1 then true else if wa s.Chains p 5 0 = 2 then false else s.Accept := by
  unfold judgeB; rw [judge_act]
theorem judge_same {s s' : Ruleset} (hs : OkRs s) (hs' : OkRs s') (p : Packet) (hv : RSV s ↔ RSV s') (hj : RSV s → PV p → judgeB s' p = judgeB s p) {r : Bool} (e : impl_Judge s p = some r) : impl_Judge s' p = some r := by
  obtain ⟨a, _, ea, a1, a2⟩ := judge_is hs p
  obtain ⟨b, _, eb, b1, b2⟩ := judge_is hs' p
  rw [ea] at e
  obtain rfl := Option.some.inj e
  rw [eb]
  by_cases h : RSV s ∧ PV p
  · rw [a1 h.1 h.2, b1 (hv.1 h.1) h.2, hj h.1 h.2]
  · rw [a2 h, b2 fun h' => h ⟨hv.2 h'.1, h'.2⟩]
end Go.PF.F
