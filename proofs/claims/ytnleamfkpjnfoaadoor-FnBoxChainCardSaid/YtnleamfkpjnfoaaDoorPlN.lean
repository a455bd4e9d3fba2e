/- Plain laws: what meetings and boxes of tests have. -/
import Derived.Test.YtnleamfkpjnfoaaDoorPlM
namespace Go.PF.F
open Go Go.PF

theorem B4.ext {s t : List (List Span)} (hs : B4 s) (ht : B4 t) (h : ∀ k, k < 4 → ∀ v, has (sd s k) v = has (sd t k) v) : s = t :=
  ext4 hs.1 ht.1 fun k hk => (hs.2 k hk).ext (ht.2 k hk) (h k hk)
theorem has_meetS {a b : List (List Span)} {k : Nat} (hk : k < 4) (v : Int) : has (sd (meetS a b) k) v = (has (sd a k) v && has (sd b k) v) := by
  unfold meetS; rw [sd_mk4 _ hk, has_meetL]
theorem meetS_assoc {a b c : List (List Span)} (ha : B4 a) (hb : B4 b) (hc : B4 c) : meetS (meetS a b) c = meetS a (meetS b c) :=
  ((ha.meet hb).meet hc).ext (ha.meet (hb.meet hc)) fun k hk v => by rw [has_meetS hk, has_meetS hk, has_meetS hk, has_meetS hk, Bool.and_assoc]
end Go.PF.F
