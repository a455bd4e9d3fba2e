/- Plain laws: two boxes. -/
import Derived.Test.YtadlmencjbangaaDoorPlX
namespace Go.PF.F
open Go Go.PF

theorem own_box {b : Box} (h : OkB b) : spec_l1OwnBox b = some b := by
  unfold spec_l1OwnBox
  rw [spec_rows (by have := h.1; omega) fun x hx => by have := h.2 x hx; omega]; rfl
theorem OkB.set {s : List (List Span)} (h : OkB ⟨s⟩) (k : Nat) {x : List Span} (hx : x.length ≤ 40) : OkB ⟨s.set k x⟩ := ⟨by have := h.1; simp at this ⊢; omega, fun y hy => by
  rcases List.mem_or_eq_of_mem_set hy with hm | hm
  · exact h.2 y hm
  · rw [hm]; exact hx⟩
theorem SameS.symm {a b : List (List Span)} (ha : B4 a) (hb : B4 b) : SameS a b ↔ SameS b a := by
  rw [← same_iff ha hb, ← same_iff hb ha]; exact And.comm
end Go.PF.F
