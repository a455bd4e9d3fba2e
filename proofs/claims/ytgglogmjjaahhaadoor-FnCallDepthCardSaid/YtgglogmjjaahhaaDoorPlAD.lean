/- Plain laws: laws of drawn rulesets. -/
import Derived.Test.YtgglogmjjaahhaaDoorPlAC
namespace Go.PF.F
open Go Go.PF

/-! Decisions. -/
/-! Traces. -/
/-! A ruleset that is changed. -/
end Go.PF.F
