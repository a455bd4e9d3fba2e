/- Plain laws: what meetings and boxes of tests have. -/
import Derived.Test.YtadlmencjbangaaDoorPlM
namespace Go.PF.F
open Go Go.PF

theorem B4.ext {s t : List (List Span)} (hs : B4 s) (ht : B4 t) (h : ∀ k, k < 4 → ∀ v, has (sd s k) v = has (sd t k) v) : s = t :=
  ext4 hs.1 ht.1 fun k hk => (hs.2 k hk).ext (ht.2 k hk) (h k hk)
theorem within_of {a b : List (List Span)} (ha : B4 a) (hb : B4 b) (h : ∀ k, k < 4 → ∀ v, has (sd a k) v = true → has (sd b k) v = true) : Within a b := .inr fun k hk => (less_nil_iff ha hb hk).2 (h k hk)
theorem within_self {a : List (List Span)} (ha : B4 a) : Within a a := within_of ha ha fun _ _ _ h => h
end Go.PF.F
