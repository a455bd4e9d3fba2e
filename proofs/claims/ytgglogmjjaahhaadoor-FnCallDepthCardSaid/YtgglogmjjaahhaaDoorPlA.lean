/- Plain laws of the program's small functions. -/
import Derived.Test.YtgglogmjjaahhaaDoorPFPlain
import Derived.Test.YtgglogmjjaahhaaDoorFun
namespace Go.PF.F
open Go Go.PF

/-! What an argument is, whatever it is. -/
/-! Sizes are counted. -/
def OkBox (b : Box) : Prop := b.Sides.length ≤ 9223372036854775807 ∧ ∀ x ∈ b.Sides, x.length ≤ 9223372036854775807
/-! A copy is what it copies. -/
theorem make_len {α : Type} {z : α} {n : Nat} (h : n ≤ 4294967296) : makeF z (n : Int) = some (List.replicate n z) := by
  unfold makeF
  rw [if_pos (by omega)]; rfl
/-! Equality. -/
end Go.PF.F
