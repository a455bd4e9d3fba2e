/- Plain laws: the program's sweeps along two sets. -/
import Derived.Test.YtgglogmjjaahhaaDoorPlH
namespace Go.PF.F
open Go Go.PF

end Go.PF.F
