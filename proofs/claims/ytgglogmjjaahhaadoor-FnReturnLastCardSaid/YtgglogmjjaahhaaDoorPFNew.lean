/- Variables that a drawn order makes; data without memory; no condition. -/
import Derived.Test.YtgglogmjjaahhaaDoorPFLate
import Derived.Test.YtgglogmjjaahhaaDoorPFTypes
namespace Go.PF
open Go Go.RowKit

/-- A variable that the region made. -/
def PNew (w0 : World) (T : TypeId) (cs : Array Value) : Value → World → Prop := fun v w => ∃ b, v = .pointer (some ⟨b, 0, none⟩) ∧ w0.heap.size ≤ b ∧ Own w b T cs
theorem PNew.mono (w0 : World) (T : TypeId) (cs : Array Value) : Mono (PNew w0 T cs) := fun _ _ _ hb ⟨b, e, h, ho⟩ => ⟨b, e, h, ho.no hb⟩
theorem PNew.monoY {g : Nat} {w0 : World} (hg : g < w0.heap.size) (T : TypeId) (cs : Array Value) : MonoY (One g) (PNew w0 T cs) := fun _ _ _ hb ⟨b, e, h, ho⟩ => ⟨b, e, h, ho.go hb fun hbg => by rw [show b = g from hbg] at h; omega⟩
end Go.PF
