/- Variables that a drawn order makes; data without memory; no condition. -/
import Derived.Test.YtadlmencjbangaaDoorPFLate
import Derived.Test.YtadlmencjbangaaDoorPFTypes
namespace Go.PF
open Go Go.RowKit

/-- A variable that the region made. -/
def PNew (w0 : World) (T : TypeId) (cs : Array Value) : Value → World → Prop := fun v w => ∃ b, v = .pointer (some ⟨b, 0, none⟩) ∧ w0.heap.size ≤ b ∧ Own w b T cs
theorem PNew.mono (w0 : World) (T : TypeId) (cs : Array Value) : Mono (PNew w0 T cs) := fun _ _ _ hb ⟨b, e, h, ho⟩ => ⟨b, e, h, ho.no hb⟩
theorem PNew.monoY {g : Nat} {w0 : World} (hg : g < w0.heap.size) (T : TypeId) (cs : Array Value) : MonoY (One g) (PNew w0 T cs) := fun _ _ _ hb ⟨b, e, h, ho⟩ => ⟨b, e, h, ho.go hb fun hbg => by rw [show b = g from hbg] at h; omega⟩
/-- Data without memory. -/
theorem VRep.leaf {α : Type} {R : RTy α} {w : World} {M M' : Nat → Prop} {x : α} {v : Value} (hR : ∀ w M M' x vs, R.rep w M x vs → R.rep w M' x vs) (h : VRep R w M x v) : VRep R w M' x v :=
  let ⟨vs, hr, e⟩ := h
  ⟨vs, hR _ _ _ _ _ hr, e⟩
end Go.PF
