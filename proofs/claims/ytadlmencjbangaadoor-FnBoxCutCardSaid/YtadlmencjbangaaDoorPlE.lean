/- Plain laws: a box's first packet. -/
import Derived.Test.YtadlmencjbangaaDoorPlD
namespace Go.PF.F
open Go Go.PF

theorem w12 : W ((1 : Int) + 1) = 2 := rfl
theorem w23 : W ((2 : Int) + 1) = 3 := rfl
theorem w34 : W ((3 : Int) + 1) = 4 := rfl
theorem four {α : Type} {xs : List α} (h : xs.length = 4) : ∃ a b c d, xs = [a, b, c, d] := by
  match xs, h with
  | [a, b, c, d], _ => exact ⟨a, b, c, d, rfl⟩
end Go.PF.F
