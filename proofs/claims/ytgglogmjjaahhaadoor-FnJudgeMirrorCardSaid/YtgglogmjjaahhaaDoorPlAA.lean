/- Plain laws: the chains that a ruleset uses. -/
import Derived.Test.YtgglogmjjaahhaaDoorPlS
namespace Go.PF.F
open Go Go.PF

theorem Reach.lt {cs : List (List Rule)} (hb : CB cs) {c x : Nat} (hc : c < cs.length) (h : Reach cs c x) : x < cs.length := by
  induction h with
  | refl => exact hc
  | step e _ ih => exact ih (hb.callee hc e)
theorem Reach.snoc {cs : List (List Rule)} {c x y : Nat} (h : Reach cs c x) (e : Calls cs x y) : Reach cs c y := by
  induction h with
  | refl => exact .step e (.refl _)
  | step e2 _ ih => exact .step e2 (ih e)
/-! The spec's rounds. -/
end Go.PF.F
