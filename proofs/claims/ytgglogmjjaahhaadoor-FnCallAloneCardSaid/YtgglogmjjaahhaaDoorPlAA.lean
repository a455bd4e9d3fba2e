/- Plain laws: the chains that a ruleset uses. -/
import Derived.Test.YtgglogmjjaahhaaDoorPlS
namespace Go.PF.F
open Go Go.PF

theorem Reach.lt {cs : List (List Rule)} (hb : CB cs) {c x : Nat} (hc : c < cs.length) (h : Reach cs c x) : x < cs.length := by
  induction h with
  | refl => exact hc
  | step e _ ih => exact ih (hb.callee hc e)
/-! The spec's rounds. -/
end Go.PF.F
