/- Plain laws: depths of calls; exact laws of rulesets. -/
import Derived.Test.YtgglogmjjaahhaaDoorPlQ
namespace Go.PF.F
open Go Go.PF

/-! Rulesets as arguments. -/
end Go.PF.F
