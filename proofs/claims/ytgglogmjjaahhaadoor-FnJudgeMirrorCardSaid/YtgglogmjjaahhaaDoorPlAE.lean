/- Plain laws: called chains, used chains. -/
import Derived.Test.YtgglogmjjaahhaaDoorPlAD
namespace Go.PF.F
open Go Go.PF

/-! Called chains. -/
/-! Used chains. -/
end Go.PF.F
