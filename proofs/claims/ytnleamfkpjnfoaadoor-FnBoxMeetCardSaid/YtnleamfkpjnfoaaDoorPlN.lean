/- Plain laws: what meetings and boxes of tests have. -/
import Derived.Test.YtnleamfkpjnfoaaDoorPlM
namespace Go.PF.F
open Go Go.PF

theorem B4.ext {s t : List (List Span)} (hs : B4 s) (ht : B4 t) (h : ∀ k, k < 4 → ∀ v, has (sd s k) v = has (sd t k) v) : s = t :=
  ext4 hs.1 ht.1 fun k hk => (hs.2 k hk).ext (ht.2 k hk) (h k hk)
theorem has_meetS {a b : List (List Span)} {k : Nat} (hk : k < 4) (v : Int) : has (sd (meetS a b) k) v = (has (sd a k) v && has (sd b k) v) := by
  unfold meetS; rw [sd_mk4 _ hk, has_meetL]
theorem meetS_comm {a b : List (List Span)} (ha : B4 a) (hb : B4 b) : meetS a b = meetS b a :=
  (ha.meet hb).ext (hb.meet ha) fun k hk v => by rw [has_meetS hk, has_meetS hk, Bool.and_comm]
theorem meetS_self {a : List (List Span)} (ha : B4 a) : meetS a a = a :=
  (ha.meet ha).ext ha fun k hk v => by rw [has_meetS hk, Bool.and_self]
theorem within_of {a b : List (List Span)} (ha : B4 a) (hb : B4 b) (h : ∀ k, k < 4 → ∀ v, has (sd a k) v = true → has (sd b k) v = true) : Within a b := .inr fun k hk => (less_nil_iff ha hb hk).2 (h k hk)
theorem within_meet {a b : List (List Span)} (ha : B4 a) (hb : B4 b) : Within (meetS a b) a := within_of (ha.meet hb) ha fun k hk v h => by
  rw [has_meetS hk, Bool.and_eq_true] at h; exact h.1
theorem within_meet' {a b : List (List Span)} (ha : B4 a) (hb : B4 b) : Within (meetS a b) b := within_of (ha.meet hb) hb fun k hk v h => by
  rw [has_meetS hk, Bool.and_eq_true] at h; exact h.2
theorem BH_meet {a b : List (List Span)} (ha : B4 a) (hb : B4 b) {p : Packet} : BH ⟨meetS a b⟩ p ↔ BH ⟨a⟩ p ∧ BH ⟨b⟩ p := by
  rw [BH_iff (b := ⟨meetS a b⟩) (ha.meet hb).1, BH_iff (b := ⟨a⟩) ha.1, BH_iff (b := ⟨b⟩) hb.1]
  constructor
  · intro h
    refine ⟨fun k hk => ?_, fun k hk => ?_⟩ <;>
    · have := h k hk
      simp only [has_meetS hk, Bool.and_eq_true] at this
      first | exact this.1 | exact this.2
  · intro h k hk
    have h1 := h.1 k hk
    have h2 := h.2 k hk
    simp only at h1 h2 ⊢
    rw [has_meetS hk, h1, h2]; rfl
end Go.PF.F
