/- Plain laws: boxes side by side; cutting, being within, being the same. -/
import Derived.Test.YtnleamfkpjnfoaaDoorPlI
namespace Go.PF.F
open Go Go.PF

/-- Set number k of a box. -/
def sd (s : List (List Span)) (k : Nat) : List Span := s.getD k []
/-- Four sets in their only form. -/
def B4 (s : List (List Span)) : Prop := s.length = 4 ∧ ∀ k, k < 4 → Set0 (topOf k) (sd s k)
/-- None of them has too many ranges. -/
def Few (s : List (List Span)) : Prop := ∀ k, k < 4 → (sd s k).length ≤ 40
theorem sd_idx {s : List (List Span)} (h : s.length = 4) {k : Nat} (hk : k < 4) : idx s (k : Int) = some (sd s k) := by
  rw [idx_nat, sd, List.getD_eq_getElem?_getD, List.getElem?_eq_getElem (by omega)]; rfl
theorem sd_get {s : List (List Span)} (h : s.length = 4) {k : Nat} (hk : k < 4) : s[k]? = some (sd s k) := by
  rw [← idx_nat]; exact sd_idx h hk
theorem ext4 {s t : List (List Span)} (hs : s.length = 4) (ht : t.length = 4) (h : ∀ k, k < 4 → sd s k = sd t k) : s = t := by
  apply List.ext_getElem? 
  intro k
  rcases Nat.lt_or_ge k 4 with hk | hk
  · rw [sd_get hs hk, sd_get ht hk, h k hk]
  · rw [List.getElem?_eq_none (by omega), List.getElem?_eq_none (by omega)]
theorem BV_iff {b : Box} : BV b ↔ B4 b.Sides ∧ Few b.Sides := by
  constructor
  · intro h
    have key : ∀ k, k < 4 → SVP (sd b.Sides k) (topOf k) := fun k hk => h.2 k _ (sd_get h.1 hk)
    exact ⟨⟨h.1, fun k hk => (SVP_iff.1 (key k hk)).1⟩, fun k hk => (SVP_iff.1 (key k hk)).2⟩
  · rintro ⟨⟨h1, h2⟩, h3⟩
    refine ⟨h1, fun i xs hx => ?_⟩
    have hi : i < 4 := by have := (List.getElem?_eq_some_iff.1 hx).1; omega
    rw [sd_get h1 hi] at hx
    rw [← Option.some.inj hx]
    exact SVP_iff.2 ⟨h2 i hi, h3 i hi⟩
/-- The four sets that f gives. -/
def mk4 (f : Nat → List Span) : List (List Span) := (List.range 4).map f
theorem mk4_len (f : Nat → List Span) : (mk4 f).length = 4 := by simp [mk4]
theorem sd_mk4 (f : Nat → List Span) {k : Nat} (hk : k < 4) : sd (mk4 f) k = f k := by
  unfold sd mk4
  rw [List.getD_eq_getElem?_getD, List.getElem?_map, List.getElem?_range hk]; rfl
theorem sd_set {s : List (List Span)} (h : s.length = 4) {k : Nat} (hk : k < 4) (x : List Span) (j : Nat) : sd (s.set k x) j = if j = k then x else sd s j := by
  unfold sd
  rw [List.getD_eq_getElem?_getD, List.getD_eq_getElem?_getD, List.getElem?_set]
  by_cases hj : k = j
  · subst hj
    rw [if_pos rfl, if_pos (by omega), if_pos rfl]; rfl
  · rw [if_neg hj, if_neg (fun e => hj e.symm)]
def meetS (a b : List (List Span)) : List (List Span) := mk4 fun k => meetL (sd a k) (sd b k)
theorem B4.meet {a b : List (List Span)} (ha : B4 a) (hb : B4 b) : B4 (meetS a b) := ⟨mk4_len _, fun k hk => by unfold meetS; rw [sd_mk4 _ hk]; exact (ha.2 k hk).meet (hb.2 k hk)⟩
theorem B4.len {a : List (List Span)} (ha : B4 a) {k : Nat} (hk : k < 4) : (sd a k).length ≤ 32768 := (ha.2 k hk).len
theorem B4.ok {b : Box} (h : B4 b.Sides) : OkBox b := by
  refine ⟨by rw [h.1]; decide, fun x hx => ?_⟩
  obtain ⟨i, hi, rfl⟩ := List.getElem_of_mem hx
  have h4 : i < 4 := by have := h.1; omega
  have := sd_get h.1 h4
  rw [List.getElem?_eq_getElem hi] at this
  rw [Option.some.inj this]
  exact Nat.le_trans (h.len h4) (by decide)
/-! Cutting. -/
/-! Being within. -/
/-! Being the same. -/
/-! The laws. -/
/-! Packets in regions. -/
theorem spec_rhas {xs : List Box} (h : xs.length ≤ 9223372036854775807) (hs : ∀ x ∈ xs, OkBox x) (p : Packet) : Dec (spec_RegionHas xs p) (RV xs ∧ PV p ∧ ∃ b ∈ xs, BH b p) := by
  unfold spec_RegionHas
  obtain ⟨rv, ev, hv⟩ := spec_region h hs
  cases rv with
  | true =>
    have hv := hv.1 rfl
    refine Dec.iff (Dec.any (body := spec_RegionHas_L0 xs p) (P := fun b => BV b ∧ PV p ∧ BH b p) h (fun k hk => ?_) (by unfold spec_RegionHas_L0; rw [lt_false (Int.le_refl _)]; rfl)) ⟨fun ⟨b, hb, _, h2, h3⟩ => ⟨hv, h2, b, hb, h3⟩, fun ⟨_, h2, b, hb, h3⟩ => ⟨b, hb, hv.1 b hb, h2, h3⟩⟩
    obtain ⟨r, er, hr⟩ := spec_has (hs _ (List.getElem_mem hk)) p
    unfold spec_RegionHas_L0
    rw [lt_true (show (k : Int) < (xs.length : Int) by omega), ev, idx_get hk]
    simp only [cond_true, Option.bind_some, er]
    exact ⟨r, by cases r <;> rfl, hr⟩
  | false =>
    have hb : spec_RegionHas_L0 xs p 0 = some (.brk 0) := by
      unfold spec_RegionHas_L0
      by_cases h0 : (0 : Int) < (xs.length : Int)
      · rw [lt_true h0, ev]; rfl
      · rw [decide_eq_false h0]; rfl
    rw [show loopF (spec_RegionHas_L0 xs p) ((((xs.length : Int)) : Int) - 0).toNat.succ 0 = (spec_RegionHas_L0 xs p 0).bind (SR.after (loopF (spec_RegionHas_L0 xs p) ((((xs.length : Int)) : Int) - 0).toNat)) from rfl, hb]
    exact Dec.no fun hh => by simpa using hv.2 hh.1
theorem impl_shas {b : Box} (hb : OkBox b) (hv : BV b) (p : Packet) : Dec (impl_sides_has b.Sides p) (BH b p) := by
  unfold impl_sides_has
  rw [impl_fields, Option.bind_some]
  exact Dec.upto (body := impl_sides_has_L0 b.Sides [p.From, p.To, p.Port, p.Proto]) (n := 4) (by decide) (fun k hk => by
    have hl : k < b.Sides.length := by have := hv.1; omega
    unfold impl_sides_has_L0
    rw [decide_eq_true (by omega : (k : Int) < 4), idx_get hl, idx_pf p hk]
    obtain ⟨r, e, hr⟩ := impl_have (hb.2 _ (List.getElem_mem hl)) (pf p k)
    simp only [cond_true, Option.bind_some, e]
    exact ⟨r, by cases r <;> rfl, hr.trans (bh_at hl)⟩) rfl
theorem impl_rhas {xs : List Box} (h : xs.length ≤ 9223372036854775807) (hs : ∀ x ∈ xs, OkBox x) (p : Packet) : Dec (impl_RegionHas xs p) (RV xs ∧ PV p ∧ ∃ b ∈ xs, BH b p) :=
  (impl_region h hs).and fun hv => (impl_packet p).and fun _ => by
    refine Dec.any (body := impl_RegionHas_L0 xs p) (P := fun b => BH b p) h (fun k hk => ?_) (by unfold impl_RegionHas_L0; rw [lt_false (Int.le_refl _)]; rfl)
    have hb := hv.1 _ (List.getElem_mem hk)
    obtain ⟨r, er, hr⟩ := impl_shas (hs _ (List.getElem_mem hk)) hb p
    unfold impl_RegionHas_L0
    rw [lt_true (show (k : Int) < (xs.length : Int) by omega), idx_get hk]
    simp only [cond_true, Option.bind_some, impl_sides hb.1, er]
    exact ⟨r, by cases r <;> rfl, hr⟩
end Go.PF.F
