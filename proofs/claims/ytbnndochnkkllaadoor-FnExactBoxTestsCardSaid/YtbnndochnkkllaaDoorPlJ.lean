/- Plain laws: boxes side by side; cutting, being within, being the same. -/
import Derived.Test.YtbnndochnkkllaaDoorPlI
namespace Go.PF.F
open Go Go.PF

/-- Set number k of a box. -/
def sd (s : List (List Span)) (k : Nat) : List Span := s.getD k []
/-- Four sets in their only form. -/
def B4 (s : List (List Span)) : Prop := s.length = 4 ∧ ∀ k, k < 4 → Set0 (topOf k) (sd s k)
/-- None of them has too many ranges. -/
def Few (s : List (List Span)) : Prop := ∀ k, k < 4 → (sd s k).length ≤ 40
theorem sd_idx {s : List (List Span)} (h : s.length = 4) {k : Nat} (hk : k < 4) : idx s (k : Int) = some (sd s k) := by
  rw [idx_nat, sd, List.getD_eq_getElem?_getD, List.getElem?_eq_getElem (by omega)]; rfl
theorem sd_get {s : List (List Span)} (h : s.length = 4) {k : Nat} (hk : k < 4) : s[k]? = some (sd s k) := by
  rw [← idx_nat]; exact sd_idx h hk
theorem ext4 {s t : List (List Span)} (hs : s.length = 4) (ht : t.length = 4) (h : ∀ k, k < 4 → sd s k = sd t k) : s = t := by
  apply List.ext_getElem? 
  intro k
  rcases Nat.lt_or_ge k 4 with hk | hk
  · rw [sd_get hs hk, sd_get ht hk, h k hk]
  · rw [List.getElem?_eq_none (by omega), List.getElem?_eq_none (by omega)]
theorem BV_iff {b : Box} : BV b ↔ B4 b.Sides ∧ Few b.Sides := by
  constructor
  · intro h
    have key : ∀ k, k < 4 → SVP (sd b.Sides k) (topOf k) := fun k hk => h.2 k _ (sd_get h.1 hk)
    exact ⟨⟨h.1, fun k hk => (SVP_iff.1 (key k hk)).1⟩, fun k hk => (SVP_iff.1 (key k hk)).2⟩
  · rintro ⟨⟨h1, h2⟩, h3⟩
    refine ⟨h1, fun i xs hx => ?_⟩
    have hi : i < 4 := by have := (List.getElem?_eq_some_iff.1 hx).1; omega
    rw [sd_get h1 hi] at hx
    rw [← Option.some.inj hx]
    exact SVP_iff.2 ⟨h2 i hi, h3 i hi⟩
/-- The four sets that f gives. -/
def mk4 (f : Nat → List Span) : List (List Span) := (List.range 4).map f
theorem mk4_len (f : Nat → List Span) : (mk4 f).length = 4 := by simp [mk4]
theorem sd_mk4 (f : Nat → List Span) {k : Nat} (hk : k < 4) : sd (mk4 f) k = f k := by
  unfold sd mk4
  rw [List.getD_eq_getElem?_getD, List.getElem?_map, List.getElem?_range hk]; rfl
theorem mk4_sd {s : List (List Span)} (h : s.length = 4) : mk4 (sd s) = s := ext4 (mk4_len _) h fun _k hk => sd_mk4 _ hk
theorem sd_set {s : List (List Span)} (h : s.length = 4) {k : Nat} (hk : k < 4) (x : List Span) (j : Nat) : sd (s.set k x) j = if j = k then x else sd s j := by
  unfold sd
  rw [List.getD_eq_getElem?_getD, List.getD_eq_getElem?_getD, List.getElem?_set]
  by_cases hj : k = j
  · subst hj
    rw [if_pos rfl, if_pos (by omega), if_pos rfl]; rfl
  · rw [if_neg hj, if_neg (fun e => hj e.symm)]
def emptyS (s : List (List Span)) : Prop := ∃ k, k < 4 ∧ sd s k = []
theorem BE_iff {s : List (List Span)} (h : s.length = 4) : BE s ↔ emptyS s := by
  constructor
  · rintro ⟨x, hx, rfl⟩
    obtain ⟨i, hi, e⟩ := List.getElem_of_mem hx
    refine ⟨i, by omega, ?_⟩
    have := sd_get h (k := i) (by omega)
    rw [List.getElem?_eq_getElem hi, e] at this
    exact (Option.some.inj this).symm
  · rintro ⟨k, hk, e⟩
    exact ⟨[], List.mem_of_getElem? (by rw [sd_get h hk, e]), rfl⟩
theorem not_emptyS {s : List (List Span)} (h : ¬ emptyS s) {k : Nat} (hk : k < 4) : sd s k ≠ [] := fun e => h ⟨k, hk, e⟩
def meetS (a b : List (List Span)) : List (List Span) := mk4 fun k => meetL (sd a k) (sd b k)
def lessK (a b : List (List Span)) (k : Nat) : List Span := lessL (topOf k) (sd a k) (sd b k)
theorem B4.meet {a b : List (List Span)} (ha : B4 a) (hb : B4 b) : B4 (meetS a b) := ⟨mk4_len _, fun k hk => by unfold meetS; rw [sd_mk4 _ hk]; exact (ha.2 k hk).meet (hb.2 k hk)⟩
theorem B4.len {a : List (List Span)} (ha : B4 a) {k : Nat} (hk : k < 4) : (sd a k).length ≤ 32768 := (ha.2 k hk).len
theorem B4.ok {b : Box} (h : B4 b.Sides) : OkBox b := by
  refine ⟨by rw [h.1]; decide, fun x hx => ?_⟩
  obtain ⟨i, hi, rfl⟩ := List.getElem_of_mem hx
  have h4 : i < 4 := by have := h.1; omega
  have := sd_get h.1 h4
  rw [List.getElem?_eq_getElem hi] at this
  rw [Option.some.inj this]
  exact Nat.le_trans (h.len h4) (by decide)
theorem B4.okm {b : List (List Span)} (h : B4 b) : ∀ x ∈ b, x.length ≤ 32768 := by
  intro x hx
  obtain ⟨i, hi, rfl⟩ := List.getElem_of_mem hx
  have h4 : i < 4 := by have := h.1; omega
  have := sd_get h.1 h4
  rw [List.getElem?_eq_getElem hi] at this
  rw [Option.some.inj this]
  exact h.len h4
theorem spec_rows {s : List (List Span)} (h : s.length ≤ 1000000) (hs : ∀ x ∈ s, x.length ≤ 4294967296) : spec_l1OwnRowsSpan s = some s := by
  unfold spec_l1OwnRowsSpan
  have := loop_brk (body := spec_l1OwnRowsSpan_L0 s) s.length (fun k => (s.take k, (k : Int))) (s, (s.length : Int)) (fun k hk => by
      unfold spec_l1OwnRowsSpan_L0
      have hx : s[k]? = some s[k] := List.getElem?_eq_getElem hk
      simp only [lt_true (show (k : Int) < (s.length : Int) by omega), cond_true, idx_nat, hx, Option.bind_some, app_nil (hs _ (List.getElem_mem hk)), app_ok (show (s.take k).length + [s[k]].length ≤ 4294967296 by simp; omega), W_succ (show k < 9223372036854775807 by omega)]
      rw [take_snoc hx])
    (by
      unfold spec_l1OwnRowsSpan_L0
      simp only [lt_false (Int.le_refl _), cond_false, List.take_of_length_le (Nat.le_refl _)])
    (fuel := ((((s.length : Int)) : Int) - 0).toNat.succ) (by omega)
  simp only [List.take_zero, Int.natCast_zero] at this
  rw [this]; rfl
theorem B4.rows {s : List (List Span)} (h : B4 s) : spec_l1OwnRowsSpan s = some s := spec_rows (by rw [h.1]; decide) (fun x hx => Nat.le_trans (h.okm x hx) (by decide))
theorem range_snoc (f : Nat → List Span) (k : Nat) : (List.range (k + 1)).map f = (List.range k).map f ++ [f k] := by
  rw [List.range_succ, List.map_append]; rfl
theorem spec_meets {a b : Box} (ha : B4 a.Sides) (hb : B4 b.Sides) : spec_l10Meet a b = some ⟨meetS a.Sides b.Sides⟩ := by
  unfold spec_l10Meet
  have := loop_brk (body := spec_l10Meet_L0 a b) 4 (fun k => ((k : Int), (List.range k).map fun k => meetL (sd a.Sides k) (sd b.Sides k))) (4, meetS a.Sides b.Sides) (fun k hk => by
      unfold spec_l10Meet_L0
      have h1 := ha.len hk
      have h2 := hb.len hk
      simp only [lt_true (show (k : Int) < 4 by omega), cond_true, sd_idx ha.1 hk, sd_idx hb.1 hk, Option.bind_some, spec_meet (show (sd a.Sides k).length ≤ 40000 by omega) (show (sd b.Sides k).length ≤ 40000 by omega), app_ok (show ((List.range k).map fun k => meetL (sd a.Sides k) (sd b.Sides k)).length + [meetL (sd a.Sides k) (sd b.Sides k)].length ≤ 4294967296 by simp; omega), W_succ (show k < 9223372036854775807 by omega), range_snoc])
    rfl (fuel := (((4) : Int) - 0).toNat.succ) (by decide)
  simp only [Int.natCast_zero, List.range_zero, List.map_nil] at this
  rw [this]; rfl
theorem spec_emp {b : Box} (hb : B4 b.Sides) : Dec (spec_l10Empty b) (emptyS b.Sides) := (spec_empty hb.ok).iff (BE_iff hb.1)
theorem impl_emp {s : List (List Span)} (h : s.length = 4) : Dec (impl_sides_empty s) (emptyS s) := (impl_empty h).iff (BE_iff h)

/-! Cutting. -/
def leftK (a b : List (List Span)) (n : Nat) : List (List Span) := mk4 fun k => if k < n then meetL (sd a k) (sd b k) else sd a k
def pieceK (a b : List (List Span)) (n : Nat) : List (List Span) := mk4 fun k => if k < n then meetL (sd a k) (sd b k) else if k = n then lessK a b n else sd a k
def cutN (a b : List (List Span)) (n : Nat) : List (List (List Span)) := (List.range n).filterMap fun k => if lessK a b k = [] then none else some (pieceK a b k)
open Classical in
noncomputable def cutL (a b : List (List Span)) : List (List (List Span)) := if emptyS (meetS a b) then (if emptyS a then [] else [a]) else cutN a b 4
theorem leftK_set {a b : List (List Span)} {n : Nat} (hn : n < 4) : (leftK a b n).set n (meetL (sd a n) (sd b n)) = leftK a b (n + 1) := by
  refine ext4 (by rw [List.length_set]; exact mk4_len _) (mk4_len _) fun k hk => ?_
  rw [sd_set (s := leftK a b n) (mk4_len _) hn, show sd (leftK a b n) k = _ from sd_mk4 _ hk, show sd (leftK a b (n + 1)) k = _ from sd_mk4 _ hk]
  by_cases h : k = n
  · subst h; rw [if_pos rfl, if_pos (by omega)]
  · rw [if_neg h]
    by_cases h2 : k < n
    · rw [if_pos h2, if_pos (by omega)]
    · rw [if_neg h2, if_neg (by omega)]
theorem leftK_piece {a b : List (List Span)} {n : Nat} (hn : n < 4) : (leftK a b n).set n (lessK a b n) = pieceK a b n := by
  refine ext4 (by rw [List.length_set]; exact mk4_len _) (mk4_len _) fun k hk => ?_
  rw [sd_set (s := leftK a b n) (mk4_len _) hn, show sd (leftK a b n) k = _ from sd_mk4 _ hk, show sd (pieceK a b n) k = _ from sd_mk4 _ hk]
  by_cases h : k = n
  · subst h; rw [if_pos rfl, if_neg (by omega), if_pos rfl]
  · rw [if_neg h]
    by_cases h2 : k < n
    · rw [if_pos h2, if_pos h2]
    · rw [if_neg h2, if_neg h2, if_neg h]
theorem leftK_B4 {a b : List (List Span)} (ha : B4 a) (hb : B4 b) (n : Nat) : B4 (leftK a b n) := ⟨mk4_len _, fun k hk => by
  rw [show sd (leftK a b n) k = _ from sd_mk4 _ hk]
  split
  · exact (ha.2 k hk).meet (hb.2 k hk)
  · exact ha.2 k hk⟩
theorem pieceK_B4 {a b : List (List Span)} (ha : B4 a) (hb : B4 b) {n : Nat} (hn : n < 4) : B4 (pieceK a b n) := ⟨mk4_len _, fun k hk => by
  rw [show sd (pieceK a b n) k = _ from sd_mk4 _ hk]
  split
  · exact (ha.2 k hk).meet (hb.2 k hk)
  · split
    · rename_i h; subst h; exact (ha.2 k hk).less (hb.2 k hk)
    · exact ha.2 k hk⟩
theorem leftK_0 {a b : List (List Span)} (ha : a.length = 4) : leftK a b 0 = a := ext4 (mk4_len _) ha fun k hk => by
  rw [show sd (leftK a b 0) k = _ from sd_mk4 _ hk, if_neg (by omega)]
theorem cutN_succ (a b : List (List Span)) (n : Nat) : cutN a b (n + 1) = cutN a b n ++ (if lessK a b n = [] then [] else [pieceK a b n]) := by
  unfold cutN
  rw [List.range_succ, List.filterMap_append, List.filterMap_cons, List.filterMap_nil]
  split <;> rename_i h <;> split at h <;> rename_i h2
  · rw [if_pos h2]
  · cases h
  · cases h
  · rw [if_neg h2, Option.some.inj h]
theorem cutN_len (a b : List (List Span)) (n : Nat) : (cutN a b n).length ≤ n := by
  unfold cutN
  exact Nat.le_trans (List.length_filterMap_le ..) (by simp)
theorem cutL_len (a b : List (List Span)) : (cutL a b).length ≤ 4 := by
  unfold cutL
  split
  · split <;> simp
  · exact cutN_len a b 4
theorem spec_cut {a b : Box} (ha : B4 a.Sides) (hb : B4 b.Sides) : spec_l11Cut a b = some ((cutL a.Sides b.Sides).map Box.mk) := by
  unfold spec_l11Cut
  rw [spec_meets ha hb, Option.bind_some]
  obtain ⟨q, e, hq⟩ := spec_emp (b := ⟨meetS a.Sides b.Sides⟩) (ha.meet hb)
  rw [e, Option.bind_some]
  unfold cutL
  cases q with
  | true =>
    rw [if_pos (hq.1 rfl), cond_true]
    obtain ⟨q, e, hq⟩ := spec_emp ha
    rw [e, Option.bind_some]
    cases q with
    | true => rw [if_pos (hq.1 rfl)]; rfl
    | false => rw [if_neg (fun h => by simpa using hq.2 h), cond_false, app_nil (by simp)]; rfl
  | false =>
    rw [if_neg (fun h => by simpa using hq.2 h), cond_false]
    have := loop_brk (body := spec_l11Cut_L0 b) 4 (fun k => ((cutN a.Sides b.Sides k).map Box.mk, (k : Int), leftK a.Sides b.Sides k)) ((cutN a.Sides b.Sides 4).map Box.mk, 4, leftK a.Sides b.Sides 4) (fun k hk => by
        unfold spec_l11Cut_L0
        have h1 := ha.len hk
        have h2 := hb.len hk
        have hl := leftK_B4 ha hb k
        have hs : sd (leftK a.Sides b.Sides k) k = sd a.Sides k := by rw [show sd (leftK a.Sides b.Sides k) k = _ from sd_mk4 _ hk, if_neg (by omega)]
        have ho := otherL_len (topOf k) 0 (sd b.Sides k)
        have hc := cutN_len a.Sides b.Sides k
        have hi : idx (leftK a.Sides b.Sides k) (k : Int) = some (sd a.Sides k) := by rw [sd_idx hl.1 hk, hs]
        simp only [lt_true (show (k : Int) < 4 by omega), cond_true, hi, sd_idx hb.1 hk, Option.bind_some, spec_top, spec_other (hb.2 k hk), spec_meet (show (sd a.Sides k).length ≤ 40000 by omega) (show (otherL (topOf k) 0 (sd b.Sides k)).length ≤ 40000 by omega), spec_meet (show (sd a.Sides k).length ≤ 40000 by omega) (show (sd b.Sides k).length ≤ 40000 by omega), hl.rows, W_succ (show k < 9223372036854775807 by omega), Int.toNat_natCast]
        rw [show meetL (sd a.Sides k) (otherL (topOf k) 0 (sd b.Sides k)) = lessK a.Sides b.Sides k from rfl, leftK_set hk, leftK_piece hk, cutN_succ]
        by_cases hz : lessK a.Sides b.Sides k = []
        · rw [if_pos hz, hz, List.append_nil]; rfl
        · rw [if_neg hz, lt_true (by have := List.length_pos_iff.2 hz; omega), cond_true, app_ok (by simp; omega), List.map_append]; rfl)
      rfl (fuel := (((4) : Int) - 0).toNat.succ) (by decide)
    simp only [Int.natCast_zero, leftK_0 ha.1] at this
    rw [show (cutN a.Sides b.Sides 0).map Box.mk = [] from rfl] at this
    rw [this]; rfl

/-! Being within. -/
def Within (a b : List (List Span)) : Prop := emptyS a ∨ ∀ k, k < 4 → lessK a b k = []
theorem less_nil_iff {a b : List (List Span)} (ha : B4 a) (hb : B4 b) {k : Nat} (hk : k < 4) : lessK a b k = [] ↔ ∀ v, has (sd a k) v = true → has (sd b k) v = true := by
  unfold lessK
  rw [((ha.2 k hk).less (hb.2 k hk)).empty_iff]
  constructor
  · intro h v hv
    have := h v
    rw [has_less (ha.2 k hk) (hb.2 k hk), hv] at this
    simpa using this
  · intro h v
    rw [has_less (ha.2 k hk) (hb.2 k hk)]
    cases hv : has (sd a k) v with
    | false => rfl
    | true => rw [h v hv]; rfl
theorem meet_nil_iff {a b : List (List Span)} (ha : B4 a) (hb : B4 b) {k : Nat} (hk : k < 4) : sd (meetS a b) k = [] ↔ ∀ v, has (sd a k) v = true → has (sd b k) v = false := by
  rw [((ha.meet hb).2 k hk).empty_iff]
  have : ∀ v, has (sd (meetS a b) k) v = (has (sd a k) v && has (sd b k) v) := fun v => by unfold meetS; rw [sd_mk4 _ hk, has_meetL]
  constructor
  · intro h v hv
    have := (this v).symm.trans (h v)
    rw [hv] at this; simpa using this
  · intro h v
    rw [this]
    cases hv : has (sd a k) v with
    | false => rfl
    | true => rw [h v hv]; rfl
theorem some_has {top : Int} {xs : List Span} (h : Set0 top xs) (hn : xs ≠ []) : ∃ v, has xs v = true := by
  rcases Classical.em (∃ v, has xs v = true) with h1 | h1
  · exact h1
  · exact absurd (h.empty_iff.2 fun v => by rw [Bool.eq_false_iff]; exact fun hv => h1 ⟨v, hv⟩) hn
theorem empty_meet {a b : List (List Span)} (ha : B4 a) (hb : B4 b) (h : emptyS a) : emptyS (meetS a b) := by
  obtain ⟨k, hk, e⟩ := h
  exact ⟨k, hk, (meet_nil_iff ha hb hk).2 fun v hv => by rw [e] at hv; cases hv⟩
theorem cutN_nil {a b : List (List Span)} {n : Nat} : cutN a b n = [] ↔ ∀ k, k < n → lessK a b k = [] := by
  unfold cutN
  rw [List.filterMap_eq_nil_iff]
  constructor
  · intro h k hk
    have := h k (List.mem_range.2 hk)
    split at this
    · assumption
    · cases this
  · intro h k hk
    rw [if_pos (h k (List.mem_range.1 hk))]
theorem cut_nil_iff {a b : List (List Span)} (ha : B4 a) (hb : B4 b) : cutL a b = [] ↔ Within a b := by
  unfold cutL
  split
  · rename_i hm
    split
    · rename_i he; exact ⟨fun _ => .inl he, fun _ => rfl⟩
    · rename_i he
      refine ⟨fun h => absurd h (by simp), fun h => ?_⟩
      exfalso
      rcases h with h | h
      · exact he h
      · obtain ⟨k, hk, e⟩ := hm
        obtain ⟨v, hv⟩ := some_has (ha.2 k hk) (not_emptyS he hk)
        have h1 := (less_nil_iff ha hb hk).1 (h k hk) v hv
        have h2 := (meet_nil_iff ha hb hk).1 e v hv
        rw [h1] at h2; cases h2
  · rename_i hm
    rw [cutN_nil]
    exact ⟨fun h => .inr h, fun h => h.elim (fun he => absurd (empty_meet ha hb he) hm) id⟩
theorem spec_within {a b : Box} (ha : OkBox a) (hb : OkBox b) : Dec (spec_BoxWithin a b) (BV a ∧ BV b ∧ Within a.Sides b.Sides) :=
  (spec_box ha).and fun hva => (spec_box hb).and fun hvb => by
    have h4a := (BV_iff.1 hva).1
    have h4b := (BV_iff.1 hvb).1
    rw [spec_cut h4a h4b, Option.bind_some]
    refine Dec.mk ?_
    rw [← cut_nil_iff h4a h4b]
    simp only [List.length_map, beq_iff_eq]
    rw [← List.length_eq_zero_iff]
    omega
theorem impl_within_sides {a b : List (List Span)} (ha : B4 a) (hb : B4 b) : Dec (impl_sides_within a b) (Within a b) := by
  unfold impl_sides_within
  obtain ⟨q, e, hq⟩ := impl_emp ha.1
  rw [e, Option.bind_some]
  cases q with
  | true => exact Dec.yes (.inl (hq.1 rfl))
  | false =>
    rw [cond_false]
    refine Dec.iff (Dec.upto (body := impl_sides_within_L0 a b) (n := 4) (P := fun k => lessK a b k = []) (by decide) (fun k hk => ?_) rfl) ⟨fun h => .inr h, fun h => h.elim (fun he => by simpa using hq.2 he) id⟩
    unfold impl_sides_within_L0
    rw [lt_true (show (k : Int) < 4 by omega), sd_idx ha.1 hk, sd_idx hb.1 hk, impl_top]
    simp only [cond_true, Option.bind_some, impl_sweep_first (ha.2 k hk) (hb.2 k hk)]
    refine ⟨decide (lessK a b k = []), ?_, by simp⟩
    rw [show lessL (topOf k) (sd a k) (sd b k) = lessK a b k from rfl]
    by_cases hz : lessK a b k = []
    · rw [hz]; rfl
    · rw [decide_eq_false hz, lt_true (by have := List.length_pos_iff.2 hz; omega)]; rfl
theorem impl_within {a b : Box} (ha : OkBox a) (hb : OkBox b) : Dec (impl_BoxWithin a b) (BV a ∧ BV b ∧ Within a.Sides b.Sides) :=
  (impl_box ha).and fun hva => (impl_box hb).and fun hvb => by
    rw [impl_sides hva.1, impl_sides hvb.1, Option.bind_some, Option.bind_some]
    exact Dec.ret (impl_within_sides (BV_iff.1 hva).1 (BV_iff.1 hvb).1)

/-! Being the same. -/
theorem spec_same {a b : Box} (ha : OkBox a) (hb : OkBox b) : Dec (spec_BoxSame a b) ((BV a ∧ BV b ∧ Within a.Sides b.Sides) ∧ (BV b ∧ BV a ∧ Within b.Sides a.Sides)) :=
  (spec_within ha hb).and fun _ => Dec.ret (spec_within hb ha)
open Classical in
noncomputable def SameS (a b : List (List Span)) : Prop := if emptyS a then emptyS b else ¬ emptyS b ∧ a = b
theorem same_iff {a b : List (List Span)} (ha : B4 a) (hb : B4 b) : (Within a b ∧ Within b a) ↔ SameS a b := by
  have nowith : ∀ {a b : List (List Span)}, B4 a → B4 b → emptyS a → ¬ emptyS b → ¬ Within b a := by
    intro a b ha hb he hn h
    rcases h with h | h
    · exact hn h
    · obtain ⟨k, hk, e⟩ := he
      obtain ⟨v, hv⟩ := some_has (hb.2 k hk) (not_emptyS hn hk)
      have := (less_nil_iff hb ha hk).1 (h k hk) v hv
      rw [e] at this; cases this
  unfold SameS
  split
  · rename_i he
    constructor
    · rintro ⟨_, h⟩
      rcases Classical.em (emptyS b) with hb' | hb'
      · exact hb'
      · exact absurd h (nowith ha hb he hb')
    · intro h; exact ⟨.inl he, .inl h⟩
  · rename_i he
    constructor
    · rintro ⟨h1, h2⟩
      rcases Classical.em (emptyS b) with hb' | hb'
      · exact absurd h1 (nowith hb ha hb' he)
      · refine ⟨hb', ext4 ha.1 hb.1 fun k hk => (ha.2 k hk).ext (hb.2 k hk) fun v => ?_⟩
        have h1 := (less_nil_iff ha hb hk).1 (h1.resolve_left he k hk) v
        have h2 := (less_nil_iff hb ha hk).1 (h2.resolve_left hb' k hk) v
        rw [Bool.eq_iff_iff]; exact ⟨h1, h2⟩
    · rintro ⟨_, rfl⟩
      have : Within a a := .inr fun k hk => (less_nil_iff ha ha hk).2 fun v hv => hv
      exact ⟨this, this⟩
theorem slices_eq (xs ys : List Span) (h : xs.length ≤ 9223372036854775807) : Dec (slices_Equal_impl_Span_impl_Span xs ys) (xs = ys) := by
  refine ⟨decide (xs = ys), ?_, by simp⟩
  refine eq_list (f := fun x y => some (decide (x = y))) (body := slices_Equal_impl_Span_impl_Span_L0 xs ys) xs ys h (fun _ _ _ _ => rfl) (fun k => ?_)
  unfold slices_Equal_impl_Span_impl_Span_L0
  congr 1
  cases idx xs k with
  | none => rfl
  | some x =>
    cases idx ys k with
    | none => rfl
    | some y => simp only [Option.bind_some]; cases decide (x = y) <;> rfl
theorem impl_same_sides {a b : List (List Span)} (ha : B4 a) (hb : B4 b) : Dec (impl_sides_same a b) (SameS a b) := by
  unfold impl_sides_same SameS
  obtain ⟨q, e, hq⟩ := impl_emp ha.1
  rw [e, Option.bind_some]
  cases q with
  | true => rw [if_pos (hq.1 rfl)]; exact Dec.ret (impl_emp hb.1)
  | false =>
    rw [if_neg (fun h => by simpa using hq.2 h), cond_false]
    obtain ⟨q, e, hq⟩ := impl_emp hb.1
    rw [e, Option.bind_some]
    cases q with
    | true => exact Dec.no fun h => h.1 (hq.1 rfl)
    | false =>
      refine Dec.iff (Dec.upto (body := impl_sides_same_L0 a b) (n := 4) (P := fun k => sd a k = sd b k) (by decide) (fun k hk => ?_) rfl) ⟨fun h => ⟨fun h' => by simpa using hq.2 h', ext4 ha.1 hb.1 h⟩, fun h => h.2 ▸ fun _ _ => rfl⟩
      unfold impl_sides_same_L0
      obtain ⟨r, er, hr⟩ := slices_eq (sd a k) (sd b k) (Nat.le_trans (ha.len hk) (by decide))
      rw [lt_true (show (k : Int) < 4 by omega), sd_idx ha.1 hk, sd_idx hb.1 hk]
      simp only [cond_true, Option.bind_some, er]
      exact ⟨r, by cases r <;> rfl, hr⟩
theorem impl_same {a b : Box} (ha : OkBox a) (hb : OkBox b) : Dec (impl_BoxSame a b) (BV a ∧ BV b ∧ SameS a.Sides b.Sides) :=
  (impl_box ha).and fun hva => (impl_box hb).and fun hvb => by
    rw [impl_sides hva.1, impl_sides hvb.1, Option.bind_some, Option.bind_some]
    exact Dec.ret (impl_same_sides (BV_iff.1 hva).1 (BV_iff.1 hvb).1)
theorem spec_same' {a b : Box} (ha : OkBox a) (hb : OkBox b) : Dec (spec_BoxSame a b) (BV a ∧ BV b ∧ SameS a.Sides b.Sides) :=
  (spec_same ha hb).iff ⟨fun ⟨⟨h1, h2, h3⟩, _, _, h4⟩ => ⟨h1, h2, (same_iff (BV_iff.1 h1).1 (BV_iff.1 h2).1).1 ⟨h3, h4⟩⟩,
    fun ⟨h1, h2, h3⟩ => have := (same_iff (BV_iff.1 h1).1 (BV_iff.1 h2).1).2 h3; ⟨⟨h1, h2, this.1⟩, h2, h1, this.2⟩⟩

/-! The laws. -/
theorem left_le {l : Int} {n : Nat} (h0 : 0 ≤ l) (h1 : l ≤ 1048576) (h : ¬ leftOf l n < 0) : 0 ≤ leftOf l n ∧ leftOf l n ≤ 1048576 ∧ n ≤ 1048576 := by
  unfold leftOf at h ⊢
  split at h
  · omega
  · rename_i h2
    rw [if_neg h2]; omega
theorem same_law {w g e1 e2 : Option Bool} {P : Prop} {k : Option Bool} (hw : Dec w P) (hg : Dec g P) (h1 : e1 = some true) (h2 : e2 = some true) (hk : k = some true) :
    (w.bind fun x5 => g.bind fun x6 => bif (x6 != x5) then some false else e1.bind fun x7 => bif x7 then (e2.bind fun x8 => bif x8 then k else some false) else some false) = some true := by
  obtain ⟨r, rfl, rfl, _⟩ := hw.same hg
  subst h1; subst h2; subst hk
  simp
theorem two_boxes {k : Box → Box → Option Bool} {a b : Box} (ga : G_Box a) (gb : G_Box b) (h : SmBox a → SmBox b → k a b = some true) :
    ((laws_szBox a 1048576).bind fun x1 => bif (decide (x1 < 0)) then some true else (laws_szBox b x1).bind fun x2 => bif (decide (x2 < 0)) then some true else (laws_toBox a).bind fun x3 => (laws_toBox b).bind fun x4 => k x3 x4) = some true := by
  rw [sz_Box (by decide) (by decide) (ok_of_G ga), Option.bind_some]
  by_cases h1 : leftOf 1048576 (wBox a) < 0
  · rw [decide_eq_true h1]; rfl
  · obtain ⟨l0, l1, hn⟩ := left_le (by decide) (by decide) h1
    rw [decide_eq_false h1, cond_false, sz_Box l0 l1 (ok_of_G gb), Option.bind_some]
    by_cases h2 : leftOf (leftOf 1048576 (wBox a)) (wBox b) < 0
    · rw [decide_eq_true h2]; rfl
    · obtain ⟨_, _, hn2⟩ := left_le l0 l1 h2
      rw [decide_eq_false h2, cond_false, to_Box (sm_Box hn), to_Box (sm_Box hn2)]
      exact h (sm_Box hn) (sm_Box hn2)
theorem eq_self_Box {b : Box} (h : OkBox b) : laws_eqBox b b = some true := by rw [eq_Box _ _ h]; simp
theorem plain_FnExactBoxWithin (a b : Box) (ga : G_Box a) (gb : G_Box b) : laws_FnExactBoxWithin a b = some true :=
  two_boxes ga gb fun _ _ => same_law (spec_within (ok_of_G ga) (ok_of_G gb)) (impl_within (ok_of_G ga) (ok_of_G gb)) (eq_self_Box (ok_of_G ga)) (eq_self_Box (ok_of_G gb)) rfl
theorem plain_FnExactBoxSame (a b : Box) (ga : G_Box a) (gb : G_Box b) : laws_FnExactBoxSame a b = some true :=
  two_boxes ga gb fun _ _ => same_law (spec_same' (ok_of_G ga) (ok_of_G gb)) (impl_same (ok_of_G ga) (ok_of_G gb)) (eq_self_Box (ok_of_G ga)) (eq_self_Box (ok_of_G gb)) rfl

/-! Packets in regions. -/
theorem spec_rhas {xs : List Box} (h : xs.length ≤ 9223372036854775807) (hs : ∀ x ∈ xs, OkBox x) (p : Packet) : Dec (spec_RegionHas xs p) (RV xs ∧ PV p ∧ ∃ b ∈ xs, BH b p) := by
  unfold spec_RegionHas
  obtain ⟨rv, ev, hv⟩ := spec_region h hs
  cases rv with
  | true =>
    have hv := hv.1 rfl
    refine Dec.iff (Dec.any (body := spec_RegionHas_L0 xs p) (P := fun b => BV b ∧ PV p ∧ BH b p) h (fun k hk => ?_) (by unfold spec_RegionHas_L0; rw [lt_false (Int.le_refl _)]; rfl)) ⟨fun ⟨b, hb, _, h2, h3⟩ => ⟨hv, h2, b, hb, h3⟩, fun ⟨_, h2, b, hb, h3⟩ => ⟨b, hb, hv.1 b hb, h2, h3⟩⟩
    obtain ⟨r, er, hr⟩ := spec_has (hs _ (List.getElem_mem hk)) p
    unfold spec_RegionHas_L0
    rw [lt_true (show (k : Int) < (xs.length : Int) by omega), ev, idx_get hk]
    simp only [cond_true, Option.bind_some, er]
    exact ⟨r, by cases r <;> rfl, hr⟩
  | false =>
    have hb : spec_RegionHas_L0 xs p 0 = some (.brk 0) := by
      unfold spec_RegionHas_L0
      by_cases h0 : (0 : Int) < (xs.length : Int)
      · rw [lt_true h0, ev]; rfl
      · rw [decide_eq_false h0]; rfl
    rw [show loopF (spec_RegionHas_L0 xs p) ((((xs.length : Int)) : Int) - 0).toNat.succ 0 = (spec_RegionHas_L0 xs p 0).bind (SR.after (loopF (spec_RegionHas_L0 xs p) ((((xs.length : Int)) : Int) - 0).toNat)) from rfl, hb]
    exact Dec.no fun hh => by simpa using hv.2 hh.1
theorem impl_shas {b : Box} (hb : OkBox b) (hv : BV b) (p : Packet) : Dec (impl_sides_has b.Sides p) (BH b p) := by
  unfold impl_sides_has
  rw [impl_fields, Option.bind_some]
  exact Dec.upto (body := impl_sides_has_L0 b.Sides [p.From, p.To, p.Port, p.Proto]) (n := 4) (by decide) (fun k hk => by
    have hl : k < b.Sides.length := by have := hv.1; omega
    unfold impl_sides_has_L0
    rw [decide_eq_true (by omega : (k : Int) < 4), idx_get hl, idx_pf p hk]
    obtain ⟨r, e, hr⟩ := impl_have (hb.2 _ (List.getElem_mem hl)) (pf p k)
    simp only [cond_true, Option.bind_some, e]
    exact ⟨r, by cases r <;> rfl, hr.trans (bh_at hl)⟩) rfl
theorem impl_rhas {xs : List Box} (h : xs.length ≤ 9223372036854775807) (hs : ∀ x ∈ xs, OkBox x) (p : Packet) : Dec (impl_RegionHas xs p) (RV xs ∧ PV p ∧ ∃ b ∈ xs, BH b p) :=
  (impl_region h hs).and fun hv => (impl_packet p).and fun _ => by
    refine Dec.any (body := impl_RegionHas_L0 xs p) (P := fun b => BH b p) h (fun k hk => ?_) (by unfold impl_RegionHas_L0; rw [lt_false (Int.le_refl _)]; rfl)
    have hb := hv.1 _ (List.getElem_mem hk)
    obtain ⟨r, er, hr⟩ := impl_shas (hs _ (List.getElem_mem hk)) hb p
    unfold impl_RegionHas_L0
    rw [lt_true (show (k : Int) < (xs.length : Int) by omega), idx_get hk]
    simp only [cond_true, Option.bind_some, impl_sides hb.1, er]
    exact ⟨r, by cases r <;> rfl, hr⟩
theorem plain_FnExactRegionHas (a : List Box) (p : Packet) (ga : GAll G_Box a) (_gp : G_Packet p) : laws_FnExactRegionHas a p = some true := by
  have hs : ∀ x ∈ a, OkBox x := fun x hx => ok_of_G (ga.2 x hx)
  unfold laws_FnExactRegionHas
  rw [sz_BoxS (by decide) (by decide) ga.1 hs, Option.bind_some]
  by_cases h : wBoxS a ≤ 1048576
  · have hm := wtL_small h
    obtain ⟨r, e1, e2, _⟩ := (spec_rhas ga.1 hs p).same (impl_rhas ga.1 hs p)
    rw [left_pos h, to_BoxS hm.1 (fun x hx => sm_Box (hm.2 x hx)), to_Packet]
    simp only [cond_false, Option.bind_some, e1, e2, eq_BoxS _ _ ga.1 hs]
    simp
  · rw [left_neg h]; rfl
end Go.PF.F
