/- Plain laws: what meetings and boxes of tests have. -/
import Derived.Test.YtbnndochnkkllaaDoorPlM
namespace Go.PF.F
open Go Go.PF

theorem has_testsS {ts : List Test} (h : ∀ t ∈ ts, TV t) {k : Nat} (hk : k < 4) (v : Int) : has (sd (testsS ts) k) v = (decide (0 ≤ v ∧ v ≤ topOf k) && ts.all fun t => t.Field.toNat != k || has (testL t) v) := by
  unfold testsS
  rw [has_tests ts fullS v h full_B4 hk, has_full hk]
theorem B4.ext {s t : List (List Span)} (hs : B4 s) (ht : B4 t) (h : ∀ k, k < 4 → ∀ v, has (sd s k) v = has (sd t k) v) : s = t :=
  ext4 hs.1 ht.1 fun k hk => (hs.2 k hk).ext (ht.2 k hk) (h k hk)
theorem testsS_same {ts ts' : List Test} (h : ∀ t ∈ ts, TV t) (h' : ∀ t ∈ ts', TV t) (e : ∀ t, t ∈ ts ↔ t ∈ ts') : testsS ts = testsS ts' :=
  (testsS_B4 h).ext (testsS_B4 h') fun k hk v => by
    rw [has_testsS h hk, has_testsS h' hk]
    congr 1
    rw [Bool.eq_iff_iff]
    simp only [List.all_eq_true]
    exact ⟨fun a t ht => a t ((e t).2 ht), fun a t ht => a t ((e t).1 ht)⟩
theorem has_meetS {a b : List (List Span)} {k : Nat} (hk : k < 4) (v : Int) : has (sd (meetS a b) k) v = (has (sd a k) v && has (sd b k) v) := by
  unfold meetS; rw [sd_mk4 _ hk, has_meetL]
theorem testsS_app {a b : List Test} (ha : ∀ t ∈ a, TV t) (hb : ∀ t ∈ b, TV t) : meetS (testsS a) (testsS b) = testsS (a ++ b) := by
  have hab : ∀ t ∈ a ++ b, TV t := fun t ht => (List.mem_append.1 ht).elim (ha t) (hb t)
  refine ((testsS_B4 ha).meet (testsS_B4 hb)).ext (testsS_B4 hab) fun k hk v => ?_
  rw [has_meetS hk, has_testsS ha hk, has_testsS hb hk, has_testsS hab hk, List.all_append]
  cases decide (0 ≤ v ∧ v ≤ topOf k) <;> simp
theorem meetS_comm {a b : List (List Span)} (ha : B4 a) (hb : B4 b) : meetS a b = meetS b a :=
  (ha.meet hb).ext (hb.meet ha) fun k hk v => by rw [has_meetS hk, has_meetS hk, Bool.and_comm]
theorem meetS_assoc {a b c : List (List Span)} (ha : B4 a) (hb : B4 b) (hc : B4 c) : meetS (meetS a b) c = meetS a (meetS b c) :=
  ((ha.meet hb).meet hc).ext (ha.meet (hb.meet hc)) fun k hk v => by rw [has_meetS hk, has_meetS hk, has_meetS hk, has_meetS hk, Bool.and_assoc]
theorem meetS_self {a : List (List Span)} (ha : B4 a) : meetS a a = a :=
  (ha.meet ha).ext ha fun k hk v => by rw [has_meetS hk, Bool.and_self]
theorem within_of {a b : List (List Span)} (ha : B4 a) (hb : B4 b) (h : ∀ k, k < 4 → ∀ v, has (sd a k) v = true → has (sd b k) v = true) : Within a b := .inr fun k hk => (less_nil_iff ha hb hk).2 (h k hk)
theorem within_meet {a b : List (List Span)} (ha : B4 a) (hb : B4 b) : Within (meetS a b) a := within_of (ha.meet hb) ha fun k hk v h => by
  rw [has_meetS hk, Bool.and_eq_true] at h; exact h.1
theorem within_meet' {a b : List (List Span)} (ha : B4 a) (hb : B4 b) : Within (meetS a b) b := within_of (ha.meet hb) hb fun k hk v h => by
  rw [has_meetS hk, Bool.and_eq_true] at h; exact h.2
theorem within_self {a : List (List Span)} (ha : B4 a) : Within a a := within_of ha ha fun _ _ _ h => h
theorem within_full {a : List (List Span)} (ha : B4 a) : Within a fullS := within_of ha full_B4 fun k hk v h => by
  rw [has_full hk]; exact decide_eq_true ((ha.2 k hk).bound h)
theorem BH_meet {a b : List (List Span)} (ha : B4 a) (hb : B4 b) {p : Packet} : BH ⟨meetS a b⟩ p ↔ BH ⟨a⟩ p ∧ BH ⟨b⟩ p := by
  rw [BH_iff (b := ⟨meetS a b⟩) (ha.meet hb).1, BH_iff (b := ⟨a⟩) ha.1, BH_iff (b := ⟨b⟩) hb.1]
  constructor
  · intro h
    refine ⟨fun k hk => ?_, fun k hk => ?_⟩ <;>
    · have := h k hk
      simp only [has_meetS hk, Bool.and_eq_true] at this
      first | exact this.1 | exact this.2
  · intro h k hk
    have h1 := h.1 k hk
    have h2 := h.2 k hk
    simp only at h1 h2 ⊢
    rw [has_meetS hk, h1, h2]; rfl
theorem BH_within {a b : List (List Span)} (ha : B4 a) (hb : B4 b) (h : Within a b) {p : Packet} (hp : BH ⟨a⟩ p) : BH ⟨b⟩ p := by
  rw [BH_iff (b := ⟨a⟩) ha.1] at hp
  rw [BH_iff (b := ⟨b⟩) hb.1]
  intro k hk
  rcases h with ⟨j, hj, e⟩ | h
  · have := hp j hj
    simp only at this
    rw [e] at this; cases this
  · exact (less_nil_iff ha hb hk).1 (h k hk) _ (hp k hk)
theorem TH_iff {t : Test} (ht : TV t) {p : Packet} (hp : PV p) : has (testL t) (pf p t.Field.toNat) = true ↔ TH t p := by
  rw [has_test ht, decide_eq_true (pf_range hp ht.field.2), Bool.true_and]; rfl
theorem BH_tests {ts : List Test} (h : ∀ t ∈ ts, TV t) {p : Packet} (hp : PV p) : BH ⟨testsS ts⟩ p ↔ ∀ t ∈ ts, TH t p := by
  rw [BH_iff (b := ⟨testsS ts⟩) (testsS_B4 h).1]
  constructor
  · intro hh t ht
    have hv := h t ht
    have := hh t.Field.toNat hv.field.2
    simp only at this
    rw [has_testsS h hv.field.2, Bool.and_eq_true, List.all_eq_true] at this
    have := this.2 t ht
    simp only [bne_self_eq_false, Bool.false_or] at this
    exact (TH_iff hv hp).1 this
  · intro hh k hk
    show has (sd (testsS ts) k) (pf p k) = true
    rw [has_testsS h hk, decide_eq_true (pf_range hp hk), Bool.true_and, List.all_eq_true]
    intro t ht
    by_cases hf : t.Field.toNat = k
    · subst hf
      rw [(TH_iff (h t ht) hp).2 (hh t ht), Bool.or_true]
    · simp [hf]
/-- The packet with the smallest values. -/
def firstP (s : List (List Span)) : Packet := ⟨(firstOf (sd s 0)).1, (firstOf (sd s 1)).1, (firstOf (sd s 2)).1, (firstOf (sd s 3)).1⟩
theorem pf_first (s : List (List Span)) {k : Nat} (hk : k < 4) : pf (firstP s) k = (firstOf (sd s k)).1 := by
  match k, hk with
  | 0, _ => rfl
  | 1, _ => rfl
  | 2, _ => rfl
  | 3, _ => rfl
theorem first_has {top : Int} {xs : List Span} (h : Set0 top xs) (hn : xs ≠ []) : has xs (firstOf xs).1 = true ∧ ∀ v, has xs v = true → (firstOf xs).1 ≤ v := by
  cases xs with
  | nil => exact absurd rfl hn
  | cons x t =>
    refine ⟨?_, fun v hv => cn_has (lo := x.Lo) (xs := x :: t) ⟨Int.le_refl _, h.cn.2⟩ hv⟩
    show has (x :: t) x.Lo = true
    rw [has_cons, inS_iff.2 ⟨Int.le_refl _, h.cn.2.1⟩]; rfl
theorem PV_of {p : Packet} (h : ∀ k, k < 4 → 0 ≤ pf p k ∧ pf p k ≤ topOf k) : PV p := ⟨h 0 (by decide), h 1 (by decide), h 2 (by decide), h 3 (by decide)⟩
theorem BH_PV {s : List (List Span)} (hs : B4 s) {p : Packet} (h : BH ⟨s⟩ p) : PV p := PV_of fun k hk => (hs.2 k hk).bound ((BH_iff (b := ⟨s⟩) hs.1).1 h k hk)
theorem BH_first {s : List (List Span)} (hs : B4 s) (hn : ¬ emptyS s) : BH ⟨s⟩ (firstP s) := (BH_iff (b := ⟨s⟩) hs.1).2 fun k hk => by
  rw [pf_first s hk]; exact (first_has (hs.2 k hk) (not_emptyS hn hk)).1
theorem first_least {s : List (List Span)} (hs : B4 s) (hn : ¬ emptyS s) {p : Packet} (h : BH ⟨s⟩ p) {k : Nat} (hk : k < 4) : pf (firstP s) k ≤ pf p k := by
  rw [pf_first s hk]
  exact (first_has (hs.2 k hk) (not_emptyS hn hk)).2 _ ((BH_iff (b := ⟨s⟩) hs.1).1 h k hk)
theorem spec_first {b : Box} (hb : OkBox b) : (BV b ∧ ¬ emptyS b.Sides ∧ spec_BoxFirst b = some (firstP b.Sides, true)) ∨ (¬ (BV b ∧ ¬ emptyS b.Sides) ∧ spec_BoxFirst b = some (⟨0, 0, 0, 0⟩, false)) := by
  unfold spec_BoxFirst
  obtain ⟨v, e, hv⟩ := spec_box hb
  rw [e, Option.bind_some]
  cases v with
  | false => exact .inr ⟨fun h => by simpa using hv.2 h.1, rfl⟩
  | true =>
    have h4 := BV_iff.1 (hv.1 rfl)
    obtain ⟨q, e2, hq⟩ := spec_emp h4.1
    rw [cond_true, e2, Option.bind_some]
    cases q with
    | true => exact .inr ⟨fun h => h.2 (hq.1 rfl), rfl⟩
    | false =>
      have hn : ¬ emptyS b.Sides := fun h => by simpa using hq.2 h
      refine .inl ⟨hv.1 rfl, hn, ?_⟩
      have hx : ∀ k, k < 4 → ∃ x, idx (sd b.Sides k) 0 = some x ∧ x.Lo = (firstOf (sd b.Sides k)).1 := by
        intro k hk
        cases hs : sd b.Sides k with
        | nil => exact absurd hs (not_emptyS hn hk)
        | cons x t => exact ⟨x, rfl, rfl⟩
      obtain ⟨x0, e0, f0⟩ := hx 0 (by decide)
      obtain ⟨x1, e1, f1⟩ := hx 1 (by decide)
      obtain ⟨x2, e2', f2⟩ := hx 2 (by decide)
      obtain ⟨x3, e3, f3⟩ := hx 3 (by decide)
      unfold spec_l10First
      have i0 := sd_idx h4.1.1 (k := 0) (by decide)
      have i1 := sd_idx h4.1.1 (k := 1) (by decide)
      have i2 := sd_idx h4.1.1 (k := 2) (by decide)
      have i3 := sd_idx h4.1.1 (k := 3) (by decide)
      simp only [Int.natCast_zero, Int.natCast_one] at i0 i1
      rw [show ((2 : Nat) : Int) = 2 from rfl] at i2
      rw [show ((3 : Nat) : Int) = 3 from rfl] at i3
      simp only [cond_false, i0, i1, i2, i3, Option.bind_some, e0, e1, e2', e3, f0, f1, f2, f3]
      rfl
end Go.PF.F
