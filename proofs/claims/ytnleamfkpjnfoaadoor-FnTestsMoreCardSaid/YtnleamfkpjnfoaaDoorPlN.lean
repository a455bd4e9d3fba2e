/- Plain laws: what meetings and boxes of tests have. -/
import Derived.Test.YtnleamfkpjnfoaaDoorPlM
namespace Go.PF.F
open Go Go.PF

theorem has_testsS {ts : List Test} (h : ∀ t ∈ ts, TV t) {k : Nat} (hk : k < 4) (v : Int) : has (sd (testsS ts) k) v = (decide (0 ≤ v ∧ v ≤ topOf k) && ts.all fun t => t.Field.toNat != k || has (testL t) v) := by
  unfold testsS
  rw [has_tests ts fullS v h full_B4 hk, has_full hk]
theorem B4.ext {s t : List (List Span)} (hs : B4 s) (ht : B4 t) (h : ∀ k, k < 4 → ∀ v, has (sd s k) v = has (sd t k) v) : s = t :=
  ext4 hs.1 ht.1 fun k hk => (hs.2 k hk).ext (ht.2 k hk) (h k hk)
theorem has_meetS {a b : List (List Span)} {k : Nat} (hk : k < 4) (v : Int) : has (sd (meetS a b) k) v = (has (sd a k) v && has (sd b k) v) := by
  unfold meetS; rw [sd_mk4 _ hk, has_meetL]
theorem testsS_app {a b : List Test} (ha : ∀ t ∈ a, TV t) (hb : ∀ t ∈ b, TV t) : meetS (testsS a) (testsS b) = testsS (a ++ b) := by
  have hab : ∀ t ∈ a ++ b, TV t := fun t ht => (List.mem_append.1 ht).elim (ha t) (hb t)
  refine ((testsS_B4 ha).meet (testsS_B4 hb)).ext (testsS_B4 hab) fun k hk v => ?_
  rw [has_meetS hk, has_testsS ha hk, has_testsS hb hk, has_testsS hab hk, List.all_append]
  cases decide (0 ≤ v ∧ v ≤ topOf k) <;> simp
theorem within_of {a b : List (List Span)} (ha : B4 a) (hb : B4 b) (h : ∀ k, k < 4 → ∀ v, has (sd a k) v = true → has (sd b k) v = true) : Within a b := .inr fun k hk => (less_nil_iff ha hb hk).2 (h k hk)
theorem within_meet {a b : List (List Span)} (ha : B4 a) (hb : B4 b) : Within (meetS a b) a := within_of (ha.meet hb) ha fun k hk v h => by
  rw [has_meetS hk, Bool.and_eq_true] at h; exact h.1
theorem within_meet' {a b : List (List Span)} (ha : B4 a) (hb : B4 b) : Within (meetS a b) b := within_of (ha.meet hb) hb fun k hk v h => by
  rw [has_meetS hk, Bool.and_eq_true] at h; exact h.2
end Go.PF.F
