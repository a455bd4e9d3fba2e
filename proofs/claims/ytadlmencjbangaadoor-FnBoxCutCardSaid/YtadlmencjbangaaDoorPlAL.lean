/- Plain laws: what a region leaves of a box (the program). -/
import Derived.Test.YtadlmencjbangaaDoorPlAK
namespace Go.PF.F
open Go Go.PF

end Go.PF.F
