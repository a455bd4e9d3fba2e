/- Variables that a drawn order makes; data without memory; no condition. -/
import Derived.Test.YtbnndochnkkllaaDoorPFLate
import Derived.Test.YtbnndochnkkllaaDoorPFTypes
namespace Go.PF
open Go Go.RowKit

/-- A variable that the region made. -/
def PNew (w0 : World) (T : TypeId) (cs : Array Value) : Value → World → Prop := fun v w => ∃ b, v = .pointer (some ⟨b, 0, none⟩) ∧ w0.heap.size ≤ b ∧ Own w b T cs
theorem PNew.mono (w0 : World) (T : TypeId) (cs : Array Value) : Mono (PNew w0 T cs) := fun _ _ _ hb ⟨b, e, h, ho⟩ => ⟨b, e, h, ho.no hb⟩
end Go.PF
