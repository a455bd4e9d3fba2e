/- Plain laws: laws of drawn rulesets. -/
import Derived.Test.YtgglogmjjaahhaaDoorPlAC
namespace Go.PF.F
open Go Go.PF

/-! Decisions. -/
/-! Traces. -/
/-! A ruleset that is changed. -/
theorem judgeB_wa (s : Ruleset) (p : Packet) : judgeB s p = if wa s.Chains p 5 0 = 1 then true else if wa s.Chains p 5 0 = 2 then false else s.Accept := by
  unfold judgeB; rw [judge_act]
end Go.PF.F
