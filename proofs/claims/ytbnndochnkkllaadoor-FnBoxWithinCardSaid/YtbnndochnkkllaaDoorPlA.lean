/- Plain laws of the program's small functions. -/
import Derived.Test.YtbnndochnkkllaaDoorPFPlain
import Derived.Test.YtbnndochnkkllaaDoorFun
namespace Go.PF.F
open Go Go.PF

/-! What an argument is, whatever it is. -/
/-! Sizes are counted. -/
def OkBox (b : Box) : Prop := b.Sides.length ≤ 9223372036854775807 ∧ ∀ x ∈ b.Sides, x.length ≤ 9223372036854775807
/-! A copy is what it copies. -/
/-! Equality. -/
end Go.PF.F
