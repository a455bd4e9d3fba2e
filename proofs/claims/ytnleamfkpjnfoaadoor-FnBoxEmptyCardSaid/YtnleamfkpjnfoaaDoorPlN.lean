/- Plain laws: what meetings and boxes of tests have. -/
import Derived.Test.YtnleamfkpjnfoaaDoorPlM
namespace Go.PF.F
open Go Go.PF

theorem has_testsS {ts : List Test} (h : ∀ t ∈ ts, TV t) {k : Nat} (hk : k < 4) (v : Int) : has (sd (testsS ts) k) v = (decide (0 ≤ v ∧ v ≤ topOf k) && ts.all fun t => t.Field.toNat != k || has (testL t) v) := by
  unfold testsS
  rw [has_tests ts fullS v h full_B4 hk, has_full hk]
theorem B4.ext {s t : List (List Span)} (hs : B4 s) (ht : B4 t) (h : ∀ k, k < 4 → ∀ v, has (sd s k) v = has (sd t k) v) : s = t :=
  ext4 hs.1 ht.1 fun k hk => (hs.2 k hk).ext (ht.2 k hk) (h k hk)
theorem BH_within {a b : List (List Span)} (ha : B4 a) (hb : B4 b) (h : Within a b) {p : Packet} (hp : BH ⟨a⟩ p) : BH ⟨b⟩ p := by
  rw [BH_iff (b := ⟨a⟩) ha.1] at hp
  rw [BH_iff (b := ⟨b⟩) hb.1]
  intro k hk
  rcases h with ⟨j, hj, e⟩ | h
  · have := hp j hj
    simp only at this
    rw [e] at this; cases this
  · exact (less_nil_iff ha hb hk).1 (h k hk) _ (hp k hk)
/-- The packet with the smallest values. -/
def firstP (s : List (List Span)) : Packet := ⟨(firstOf (sd s 0)).1, (firstOf (sd s 1)).1, (firstOf (sd s 2)).1, (firstOf (sd s 3)).1⟩
theorem pf_first (s : List (List Span)) {k : Nat} (hk : k < 4) : pf (firstP s) k = (firstOf (sd s k)).1 := by
  match k, hk with
  | 0, _ => rfl
  | 1, _ => rfl
  | 2, _ => rfl
  | 3, _ => rfl
theorem first_has {top : Int} {xs : List Span} (h : Set0 top xs) (hn : xs ≠ []) : has xs (firstOf xs).1 = true ∧ ∀ v, has xs v = true → (firstOf xs).1 ≤ v := by
  cases xs with
  | nil => exact absurd rfl hn
  | cons x t =>
    refine ⟨?_, fun v hv => cn_has (lo := x.Lo) (xs := x :: t) ⟨Int.le_refl _, h.cn.2⟩ hv⟩
    show has (x :: t) x.Lo = true
    rw [has_cons, inS_iff.2 ⟨Int.le_refl _, h.cn.2.1⟩]; rfl
theorem BH_first {s : List (List Span)} (hs : B4 s) (hn : ¬ emptyS s) : BH ⟨s⟩ (firstP s) := (BH_iff (b := ⟨s⟩) hs.1).2 fun k hk => by
  rw [pf_first s hk]; exact (first_has (hs.2 k hk) (not_emptyS hn hk)).1
theorem spec_first {b : Box} (hb : OkBox b) : (BV b ∧ ¬ emptyS b.Sides ∧ spec_BoxFirst b = some (firstP b.Sides, true)) ∨ (¬ (BV b ∧ ¬ emptyS b.Sides) ∧ spec_BoxFirst b = some (⟨0, 0, 0, 0⟩, false)) := by
  unfold spec_BoxFirst
  obtain ⟨v, e, hv⟩ := spec_box hb
  rw [e, Option.bind_some]
  cases v with
  | false => exact .inr ⟨fun h => by simpa using hv.2 h.1, rfl⟩
  | true =>
    have h4 := BV_iff.1 (hv.1 rfl)
    obtain ⟨q, e2, hq⟩ := spec_emp h4.1
    rw [cond_true, e2, Option.bind_some]
    cases q with
    | true => exact .inr ⟨fun h => h.2 (hq.1 rfl), rfl⟩
    | false =>
      have hn : ¬ emptyS b.Sides := fun h => by simpa using hq.2 h
      refine .inl ⟨hv.1 rfl, hn, ?_⟩
      have hx : ∀ k, k < 4 → ∃ x, idx (sd b.Sides k) 0 = some x ∧ x.Lo = (firstOf (sd b.Sides k)).1 := by
        intro k hk
        cases hs : sd b.Sides k with
        | nil => exact absurd hs (not_emptyS hn hk)
        | cons x t => exact ⟨x, rfl, rfl⟩
      obtain ⟨x0, e0, f0⟩ := hx 0 (by decide)
      obtain ⟨x1, e1, f1⟩ := hx 1 (by decide)
      obtain ⟨x2, e2', f2⟩ := hx 2 (by decide)
      obtain ⟨x3, e3, f3⟩ := hx 3 (by decide)
      unfold spec_l10First
      have i0 := sd_idx h4.1.1 (k := 0) (by decide)
      have i1 := sd_idx h4.1.1 (k := 1) (by decide)
      have i2 := sd_idx h4.1.1 (k := 2) (by decide)
      have i3 := sd_idx h4.1.1 (k := 3) (by decide)
      simp only [Int.natCast_zero, Int.natCast_one] at i0 i1
      rw [show ((2 : Nat) : Int) = 2 from rfl] at i2
      rw [show ((3 : Nat) : Int) = 3 from rfl] at i3
      simp only [cond_false, i0, i1, i2, i3, Option.bind_some, e0, e1, e2', e3, f0, f1, f2, f3]
      rfl
end Go.PF.F
