/- Plain laws: what meetings and boxes of tests have. -/
import Derived.Test.YtnleamfkpjnfoaaDoorPlM
namespace Go.PF.F
open Go Go.PF

theorem has_testsS {ts : List Test} (h : ∀ t ∈ ts, TV t) {k : Nat} (hk : k < 4) (v : Int) : has (sd (testsS ts) k) v = (decide (0 ≤ v ∧ v ≤ topOf k) && ts.all fun t => t.Field.toNat != k || has (testL t) v) := by
  unfold testsS
  rw [has_tests ts fullS v h full_B4 hk, has_full hk]
theorem B4.ext {s t : List (List Span)} (hs : B4 s) (ht : B4 t) (h : ∀ k, k < 4 → ∀ v, has (sd s k) v = has (sd t k) v) : s = t :=
  ext4 hs.1 ht.1 fun k hk => (hs.2 k hk).ext (ht.2 k hk) (h k hk)
theorem TH_iff {t : Test} (ht : TV t) {p : Packet} (hp : PV p) : has (testL t) (pf p t.Field.toNat) = true ↔ TH t p := by
  rw [has_test ht, decide_eq_true (pf_range hp ht.field.2), Bool.true_and]; rfl
theorem BH_tests {ts : List Test} (h : ∀ t ∈ ts, TV t) {p : Packet} (hp : PV p) : BH ⟨testsS ts⟩ p ↔ ∀ t ∈ ts, TH t p := by
  rw [BH_iff (b := ⟨testsS ts⟩) (testsS_B4 h).1]
  constructor
  · intro hh t ht
    have hv := h t ht
    have := hh t.Field.toNat hv.field.2
    simp only at this
    rw [has_testsS h hv.field.2, Bool.and_eq_true, List.all_eq_true] at this
    have := this.2 t ht
    simp only [bne_self_eq_false, Bool.false_or] at this
    exact (TH_iff hv hp).1 this
  · intro hh k hk
    show has (sd (testsS ts) k) (pf p k) = true
    rw [has_testsS h hk, decide_eq_true (pf_range hp hk), Bool.true_and, List.all_eq_true]
    intro t ht
    by_cases hf : t.Field.toNat = k
    · subst hf
      rw [(TH_iff (h t ht) hp).2 (hh t ht), Bool.or_true]
    · simp [hf]
end Go.PF.F
