/- Plain laws: cutting boxes, what the laws ask. -/
import Derived.Test.YtadlmencjbangaaDoorPlAM
namespace Go.PF.F
open Go Go.PF

end Go.PF.F
