/- Plain laws: boxes side by side; cutting, being within, being the same. -/
import Derived.Test.YtnleamfkpjnfoaaDoorPlI
namespace Go.PF.F
open Go Go.PF

/-- Set number k of a box. -/
def sd (s : List (List Span)) (k : Nat) : List Span := s.getD k []
/-- Four sets in their only form. -/
def B4 (s : List (List Span)) : Prop := s.length = 4 ∧ ∀ k, k < 4 → Set0 (topOf k) (sd s k)
/-- None of them has too many ranges. -/
def Few (s : List (List Span)) : Prop := ∀ k, k < 4 → (sd s k).length ≤ 40
theorem sd_idx {s : List (List Span)} (h : s.length = 4) {k : Nat} (hk : k < 4) : idx s (k : Int) = some (sd s k) := by
  rw [idx_nat, sd, List.getD_eq_getElem?_getD, List.getElem?_eq_getElem (by omega)]; rfl
theorem sd_get {s : List (List Span)} (h : s.length = 4) {k : Nat} (hk : k < 4) : s[k]? = some (sd s k) := by
  rw [← idx_nat]; exact sd_idx h hk
theorem ext4 {s t : List (List Span)} (hs : s.length = 4) (ht : t.length = 4) (h : ∀ k, k < 4 → sd s k = sd t k) : s = t := by
  apply List.ext_getElem? 
  intro k
  rcases Nat.lt_or_ge k 4 with hk | hk
  · rw [sd_get hs hk, sd_get ht hk, h k hk]
  · rw [List.getElem?_eq_none (by omega), List.getElem?_eq_none (by omega)]
theorem BV_iff {b : Box} : BV b ↔ B4 b.Sides ∧ Few b.Sides := by
  constructor
  · intro h
    have key : ∀ k, k < 4 → SVP (sd b.Sides k) (topOf k) := fun k hk => h.2 k _ (sd_get h.1 hk)
    exact ⟨⟨h.1, fun k hk => (SVP_iff.1 (key k hk)).1⟩, fun k hk => (SVP_iff.1 (key k hk)).2⟩
  · rintro ⟨⟨h1, h2⟩, h3⟩
    refine ⟨h1, fun i xs hx => ?_⟩
    have hi : i < 4 := by have := (List.getElem?_eq_some_iff.1 hx).1; omega
    rw [sd_get h1 hi] at hx
    rw [← Option.some.inj hx]
    exact SVP_iff.2 ⟨h2 i hi, h3 i hi⟩
/-- The four sets that f gives. -/
def mk4 (f : Nat → List Span) : List (List Span) := (List.range 4).map f
theorem mk4_len (f : Nat → List Span) : (mk4 f).length = 4 := by simp [mk4]
theorem sd_mk4 (f : Nat → List Span) {k : Nat} (hk : k < 4) : sd (mk4 f) k = f k := by
  unfold sd mk4
  rw [List.getD_eq_getElem?_getD, List.getElem?_map, List.getElem?_range hk]; rfl
theorem sd_set {s : List (List Span)} (h : s.length = 4) {k : Nat} (hk : k < 4) (x : List Span) (j : Nat) : sd (s.set k x) j = if j = k then x else sd s j := by
  unfold sd
  rw [List.getD_eq_getElem?_getD, List.getD_eq_getElem?_getD, List.getElem?_set]
  by_cases hj : k = j
  · subst hj
    rw [if_pos rfl, if_pos (by omega), if_pos rfl]; rfl
  · rw [if_neg hj, if_neg (fun e => hj e.symm)]
def emptyS (s : List (List Span)) : Prop := ∃ k, k < 4 ∧ sd s k = []
theorem BE_iff {s : List (List Span)} (h : s.length = 4) : BE s ↔ emptyS s := by
  constructor
  · rintro ⟨x, hx, rfl⟩
    obtain ⟨i, hi, e⟩ := List.getElem_of_mem hx
    refine ⟨i, by omega, ?_⟩
    have := sd_get h (k := i) (by omega)
    rw [List.getElem?_eq_getElem hi, e] at this
    exact (Option.some.inj this).symm
  · rintro ⟨k, hk, e⟩
    exact ⟨[], List.mem_of_getElem? (by rw [sd_get h hk, e]), rfl⟩
theorem not_emptyS {s : List (List Span)} (h : ¬ emptyS s) {k : Nat} (hk : k < 4) : sd s k ≠ [] := fun e => h ⟨k, hk, e⟩
def meetS (a b : List (List Span)) : List (List Span) := mk4 fun k => meetL (sd a k) (sd b k)
def lessK (a b : List (List Span)) (k : Nat) : List Span := lessL (topOf k) (sd a k) (sd b k)
theorem B4.meet {a b : List (List Span)} (ha : B4 a) (hb : B4 b) : B4 (meetS a b) := ⟨mk4_len _, fun k hk => by unfold meetS; rw [sd_mk4 _ hk]; exact (ha.2 k hk).meet (hb.2 k hk)⟩
theorem B4.len {a : List (List Span)} (ha : B4 a) {k : Nat} (hk : k < 4) : (sd a k).length ≤ 32768 := (ha.2 k hk).len
theorem B4.ok {b : Box} (h : B4 b.Sides) : OkBox b := by
  refine ⟨by rw [h.1]; decide, fun x hx => ?_⟩
  obtain ⟨i, hi, rfl⟩ := List.getElem_of_mem hx
  have h4 : i < 4 := by have := h.1; omega
  have := sd_get h.1 h4
  rw [List.getElem?_eq_getElem hi] at this
  rw [Option.some.inj this]
  exact Nat.le_trans (h.len h4) (by decide)
theorem spec_emp {b : Box} (hb : B4 b.Sides) : Dec (spec_l10Empty b) (emptyS b.Sides) := (spec_empty hb.ok).iff (BE_iff hb.1)
theorem impl_emp {s : List (List Span)} (h : s.length = 4) : Dec (impl_sides_empty s) (emptyS s) := (impl_empty h).iff (BE_iff h)

/-! Cutting. -/
/-! Being within. -/
def Within (a b : List (List Span)) : Prop := emptyS a ∨ ∀ k, k < 4 → lessK a b k = []
theorem less_nil_iff {a b : List (List Span)} (ha : B4 a) (hb : B4 b) {k : Nat} (hk : k < 4) : lessK a b k = [] ↔ ∀ v, has (sd a k) v = true → has (sd b k) v = true := by
  unfold lessK
  rw [((ha.2 k hk).less (hb.2 k hk)).empty_iff]
  constructor
  · intro h v hv
    have := h v
    rw [has_less (ha.2 k hk) (hb.2 k hk), hv] at this
    simpa using this
  · intro h v
    rw [has_less (ha.2 k hk) (hb.2 k hk)]
    cases hv : has (sd a k) v with
    | false => rfl
    | true => rw [h v hv]; rfl
theorem impl_within_sides {a b : List (List Span)} (ha : B4 a) (hb : B4 b) : Dec (impl_sides_within a b) (Within a b) := by
  unfold impl_sides_within
  obtain ⟨q, e, hq⟩ := impl_emp ha.1
  rw [e, Option.bind_some]
  cases q with
  | true => exact Dec.yes (.inl (hq.1 rfl))
  | false =>
    rw [cond_false]
    refine Dec.iff (Dec.upto (body := impl_sides_within_L0 a b) (n := 4) (P := fun k => lessK a b k = []) (by decide) (fun k hk => ?_) rfl) ⟨fun h => .inr h, fun h => h.elim (fun he => by simpa using hq.2 he) id⟩
    unfold impl_sides_within_L0
    rw [lt_true (show (k : Int) < 4 by omega), sd_idx ha.1 hk, sd_idx hb.1 hk, impl_top]
    simp only [cond_true, Option.bind_some, impl_sweep_first (ha.2 k hk) (hb.2 k hk)]
    refine ⟨decide (lessK a b k = []), ?_, by simp⟩
    rw [show lessL (topOf k) (sd a k) (sd b k) = lessK a b k from rfl]
    by_cases hz : lessK a b k = []
    · rw [hz]; rfl
    · rw [decide_eq_false hz, lt_true (by have := List.length_pos_iff.2 hz; omega)]; rfl
theorem impl_within {a b : Box} (ha : OkBox a) (hb : OkBox b) : Dec (impl_BoxWithin a b) (BV a ∧ BV b ∧ Within a.Sides b.Sides) :=
  (impl_box ha).and fun hva => (impl_box hb).and fun hvb => by
    rw [impl_sides hva.1, impl_sides hvb.1, Option.bind_some, Option.bind_some]
    exact Dec.ret (impl_within_sides (BV_iff.1 hva).1 (BV_iff.1 hvb).1)

/-! Being the same. -/
/-! The laws. -/
/-! Packets in regions. -/
end Go.PF.F
