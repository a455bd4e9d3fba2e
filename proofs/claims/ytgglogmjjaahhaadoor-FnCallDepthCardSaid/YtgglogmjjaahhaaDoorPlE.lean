/- Plain laws: a box's first packet. -/
import Derived.Test.YtgglogmjjaahhaaDoorPlD
namespace Go.PF.F
open Go Go.PF

theorem w12 : W ((1 : Int) + 1) = 2 := rfl
theorem w23 : W ((2 : Int) + 1) = 3 := rfl
theorem w34 : W ((3 : Int) + 1) = 4 := rfl
end Go.PF.F
