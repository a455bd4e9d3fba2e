/- Plain laws: what meetings and boxes of tests have. -/
import Derived.Test.YtadlmencjbangaaDoorPlM
namespace Go.PF.F
open Go Go.PF

theorem B4.ext {s t : List (List Span)} (hs : B4 s) (ht : B4 t) (h : ∀ k, k < 4 → ∀ v, has (sd s k) v = has (sd t k) v) : s = t :=
  ext4 hs.1 ht.1 fun k hk => (hs.2 k hk).ext (ht.2 k hk) (h k hk)
end Go.PF.F
