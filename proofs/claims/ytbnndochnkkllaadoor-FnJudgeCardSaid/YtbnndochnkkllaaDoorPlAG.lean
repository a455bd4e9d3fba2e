/- Plain laws: rulesets with one rule more, rulesets turned round. -/
import Derived.Test.YtbnndochnkkllaaDoorPlAE
namespace Go.PF.F
open Go Go.PF

/-! Turned round. -/
end Go.PF.F
