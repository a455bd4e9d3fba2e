/- Plain laws: the chains that a ruleset uses. -/
import Derived.Test.YtgglogmjjaahhaaDoorPlS
namespace Go.PF.F
open Go Go.PF

theorem Reach.lt {cs : List (List Rule)} (hb : CB cs) {c x : Nat} (hc : c < cs.length) (h : Reach cs c x) : x < cs.length := by
  induction h with
  | refl => exact hc
  | step e _ ih => exact ih (hb.callee hc e)
theorem Reach.snoc {cs : List (List Rule)} {c x y : Nat} (h : Reach cs c x) (e : Calls cs x y) : Reach cs c y := by
  induction h with
  | refl => exact .step e (.refl _)
  | step e2 _ ih => exact .step e2 (ih e)
/-! The spec's rounds. -/
theorem filter_range {p : Nat → Bool} {n : Nat} (hp : ∀ x, p x = true → x < n) : ∀ m, n ≤ m → (List.range m).filter p = (List.range n).filter p
  | 0, h => by rw [show n = 0 by omega]
  | m + 1, h => by
    by_cases e : n = m + 1
    · rw [e]
    · rw [List.range_succ, List.filter_append, filter_range hp m (by omega)]
      have : p m = false := by rw [Bool.eq_false_iff]; exact fun h2 => by have := hp m h2; omega
      simp [this]
theorem callN_range {cs : List (List Rule)} (hb : CB cs) {c : Nat} (hc : c < cs.length) : callN (ch cs c) = (List.range cs.length).filter (called (ch cs c)) :=
  filter_range (fun _ h => hb.callee hc h) 5 hb.n5
end Go.PF.F
