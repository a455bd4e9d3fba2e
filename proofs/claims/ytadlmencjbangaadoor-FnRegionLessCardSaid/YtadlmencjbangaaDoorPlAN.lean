/- Plain laws: cutting boxes, what the laws ask. -/
import Derived.Test.YtadlmencjbangaaDoorPlAM
namespace Go.PF.F
open Go Go.PF

/-- A point lies in at most one of boxes that are apart. -/
theorem count_dj {rest : List (List (List Span))} (h : rest.Pairwise Dj) (q : List (List Span) → Bool) {f : Nat → Int} (hq : ∀ p ∈ rest, q p = true → hasB p f) : rest.countP q ≤ 1 := by
  induction rest with
  | nil => simp
  | cons p ps ih =>
    rw [List.pairwise_cons] at h
    rw [List.countP_cons]
    have hi := ih h.2 (fun x hx => hq x (by simp [hx]))
    by_cases hp : q p = true
    · rw [if_pos hp]
      have : ps.countP q = 0 := List.countP_eq_zero.2 fun x hx hqx => h.1 x hx f (hq p (by simp) hp) (hq x (by simp [hx]) hqx)
      omega
    · rw [if_neg hp]; omega
end Go.PF.F
