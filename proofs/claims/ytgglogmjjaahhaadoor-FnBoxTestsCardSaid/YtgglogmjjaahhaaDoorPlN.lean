/- Plain laws: what meetings and boxes of tests have. -/
import Derived.Test.YtgglogmjjaahhaaDoorPlM
namespace Go.PF.F
open Go Go.PF

theorem has_testsS {ts : List Test} (h : ∀ t ∈ ts, TV t) {k : Nat} (hk : k < 4) (v : Int) : has (sd (testsS ts) k) v = (decide (0 ≤ v ∧ v ≤ topOf k) && ts.all fun t => t.Field.toNat != k || has (testL t) v) := by
  unfold testsS
  rw [has_tests ts fullS v h full_B4 hk, has_full hk]
theorem B4.ext {s t : List (List Span)} (hs : B4 s) (ht : B4 t) (h : ∀ k, k < 4 → ∀ v, has (sd s k) v = has (sd t k) v) : s = t :=
  ext4 hs.1 ht.1 fun k hk => (hs.2 k hk).ext (ht.2 k hk) (h k hk)
end Go.PF.F
