import Derived.Test.YtgglogmjjaahhaaDoorPlP
/- Plain laws: sets of numbers. -/
namespace Go.PF.F
open Go Go.PF

/-- A set in its only form, from lo on. -/
def Cn (lo : Int) : List Span → Prop
  | [] => True
  | x :: xs => lo ≤ x.Lo ∧ x.Lo ≤ x.Hi ∧ Cn (x.Hi + 2) xs
def inS (x : Span) (v : Int) : Bool := decide (x.Lo ≤ v ∧ v ≤ x.Hi)
def has (xs : List Span) (v : Int) : Bool := xs.any fun x => inS x v
/-- No number of it is above top. -/
def Up (top : Int) (xs : List Span) : Prop := ∀ x ∈ xs, x.Hi ≤ top
theorem cn_mono {lo lo' : Int} {xs : List Span} (h : Cn lo xs) (hl : lo' ≤ lo) : Cn lo' xs := by
  cases xs with
  | nil => trivial
  | cons x xs => exact ⟨Int.le_trans hl h.1, h.2⟩
theorem cn_lo : ∀ {lo : Int} {xs : List Span}, Cn lo xs → ∀ x ∈ xs, lo ≤ x.Lo ∧ x.Lo ≤ x.Hi
  | lo, x :: xs, h, y, hy => by
    rcases List.mem_cons.1 hy with rfl | hy
    · exact ⟨h.1, h.2.1⟩
    · have h0 := h.1
      have h1 := h.2.1
      have := cn_lo h.2.2 y hy
      omega
theorem cn_len : ∀ {xs : List Span} {lo top : Int}, Cn lo xs → Up top xs → lo ≤ top + 2 → lo + 2 * (xs.length : Int) ≤ top + 2
  | [], lo, top, _, _, h => by simpa using h
  | x :: xs, lo, top, h, hu, hl => by
    have h1 := hu x (by simp)
    have h0 := h.1
    have h2 := h.2.1
    have := cn_len h.2.2 (fun y hy => hu y (by simp [hy])) (by omega)
    simp only [List.length_cons, Int.natCast_add, Int.natCast_one] at this ⊢
    omega
theorem cn_len' {xs : List Span} {top : Int} (h : Cn 0 xs) (hu : Up top xs) (h0 : 0 ≤ top) (h1 : top ≤ 65535) : xs.length ≤ 32768 := by
  have := cn_len h hu (by omega); omega
/-! The program's validity is this form. -/
/-- A set of numbers up to top, in its only form. -/
structure Set0 (top : Int) (xs : List Span) : Prop where
  t0 : 0 ≤ top
  t1 : top ≤ 65535
  cn : Cn 0 xs
  up : Up top xs
theorem Set0.len {top : Int} {xs : List Span} (h : Set0 top xs) : xs.length ≤ 32768 := cn_len' h.cn h.up h.t0 h.t1
theorem Set0.mem {top : Int} {xs : List Span} (h : Set0 top xs) {x : Span} (hx : x ∈ xs) : 0 ≤ x.Lo ∧ x.Lo ≤ x.Hi ∧ x.Hi ≤ top :=
  have := cn_lo h.cn x hx; ⟨this.1, this.2, h.up x hx⟩
theorem Set0.nil {top : Int} (h0 : 0 ≤ top) (h1 : top ≤ 65535) : Set0 top [] := ⟨h0, h1, trivial, fun _ h => by cases h⟩
theorem Set0.one {top lo hi : Int} (h0 : 0 ≤ lo) (h1 : lo ≤ hi) (h2 : hi ≤ top) (h3 : top ≤ 65535) : Set0 top [⟨lo, hi⟩] :=
  ⟨by omega, h3, ⟨h0, h1, trivial⟩, fun x hx => by rw [List.mem_singleton.1 hx]; exact h2⟩
/-! Meetings. -/
theorem imax_le {a b c : Int} : imax a b ≤ c ↔ a ≤ c ∧ b ≤ c := by unfold imax; split <;> omega
theorem le_imax {a b c : Int} : c ≤ imax a b ↔ c ≤ a ∨ c ≤ b := by unfold imax; split <;> omega
theorem imin_le {a b c : Int} : imin a b ≤ c ↔ a ≤ c ∨ b ≤ c := by unfold imin; split <;> omega
theorem le_imin {a b c : Int} : c ≤ imin a b ↔ c ≤ a ∧ c ≤ b := by unfold imin; split <;> omega
/-! What is not in a set. -/
def otherL (top : Int) : Int → List Span → List Span
  | at_, [] => if at_ ≤ top then [⟨at_, top⟩] else []
  | at_, x :: xs => (if at_ < x.Lo then [⟨at_, x.Lo - 1⟩] else []) ++ otherL top (x.Hi + 1) xs
theorem cn_other {top : Int} : ∀ {xs : List Span} {lo at_ : Int}, Cn lo xs → at_ ≤ lo → Cn at_ (otherL top at_ xs)
  | [], lo, at_, _, _ => by
    unfold otherL
    split
    · exact ⟨Int.le_refl _, by assumption, trivial⟩
    · trivial
  | x :: xs, lo, at_, h, hl => by
    unfold otherL
    have h0 := h.1
    have h1 := h.2.1
    have ih : Cn (x.Hi + 1) (otherL top (x.Hi + 1) xs) := cn_other h.2.2 (by omega)
    split
    · exact ⟨Int.le_refl _, by simp only; omega, cn_mono ih (by simp only; omega)⟩
    · exact cn_mono ih (by omega)
theorem up_other {top : Int} : ∀ {xs : List Span} {lo at_ : Int}, Cn lo xs → Up top xs → Up top (otherL top at_ xs)
  | [], _, at_, _, _ => by
    unfold otherL
    split
    · intro z hz; rw [List.mem_singleton.1 hz]; exact Int.le_refl _
    · intro z hz; cases hz
  | x :: xs, _, at_, h, hu => by
    unfold otherL
    have ih := up_other (top := top) (at_ := x.Hi + 1) h.2.2 (fun y hy => hu y (by simp [hy]))
    have h1 := h.2.1
    have h2 := hu x (by simp)
    intro z hz
    rcases List.mem_append.1 hz with hz | hz
    · split at hz
      · rw [List.mem_singleton.1 hz]; simp only; omega
      · cases hz
    · exact ih z hz
theorem Set0.other {top : Int} {xs : List Span} (h : Set0 top xs) : Set0 top (otherL top 0 xs) := ⟨h.t0, h.t1, cn_other h.cn (Int.le_refl _), up_other h.cn h.up⟩
end Go.PF.F

/- Plain laws: the program's sweeps along two sets. -/
namespace Go.PF.F
open Go Go.PF

end Go.PF.F

/- Plain laws: boxes side by side; cutting, being within, being the same. -/
namespace Go.PF.F
open Go Go.PF

/-- Set number k of a box. -/
def sd (s : List (List Span)) (k : Nat) : List Span := s.getD k []
/-- Four sets in their only form. -/
def B4 (s : List (List Span)) : Prop := s.length = 4 ∧ ∀ k, k < 4 → Set0 (topOf k) (sd s k)
/-- None of them has too many ranges. -/
def Few (s : List (List Span)) : Prop := ∀ k, k < 4 → (sd s k).length ≤ 40
theorem sd_idx {s : List (List Span)} (h : s.length = 4) {k : Nat} (hk : k < 4) : idx s (k : Int) = some (sd s k) := by
  rw [idx_nat, sd, List.getD_eq_getElem?_getD, List.getElem?_eq_getElem (by omega)]; rfl
theorem sd_get {s : List (List Span)} (h : s.length = 4) {k : Nat} (hk : k < 4) : s[k]? = some (sd s k) := by
  rw [← idx_nat]; exact sd_idx h hk
theorem sd_set {s : List (List Span)} (h : s.length = 4) {k : Nat} (hk : k < 4) (x : List Span) (j : Nat) : sd (s.set k x) j = if j = k then x else sd s j := by
  unfold sd
  rw [List.getD_eq_getElem?_getD, List.getD_eq_getElem?_getD, List.getElem?_set]
  by_cases hj : k = j
  · subst hj
    rw [if_pos rfl, if_pos (by omega), if_pos rfl]; rfl
  · rw [if_neg hj, if_neg (fun e => hj e.symm)]
theorem B4.len {a : List (List Span)} (ha : B4 a) {k : Nat} (hk : k < 4) : (sd a k).length ≤ 32768 := (ha.2 k hk).len
theorem B4.ok {b : Box} (h : B4 b.Sides) : OkBox b := by
  refine ⟨by rw [h.1]; decide, fun x hx => ?_⟩
  obtain ⟨i, hi, rfl⟩ := List.getElem_of_mem hx
  have h4 : i < 4 := by have := h.1; omega
  have := sd_get h.1 h4
  rw [List.getElem?_eq_getElem hi] at this
  rw [Option.some.inj this]
  exact Nat.le_trans (h.len h4) (by decide)
theorem B4.okm {b : List (List Span)} (h : B4 b) : ∀ x ∈ b, x.length ≤ 32768 := by
  intro x hx
  obtain ⟨i, hi, rfl⟩ := List.getElem_of_mem hx
  have h4 : i < 4 := by have := h.1; omega
  have := sd_get h.1 h4
  rw [List.getElem?_eq_getElem hi] at this
  rw [Option.some.inj this]
  exact h.len h4
theorem spec_rows {s : List (List Span)} (h : s.length ≤ 4000000000) (hs : ∀ x ∈ s, x.length ≤ 4294967296) : spec_l1OwnRowsSpan s = some s := by
  unfold spec_l1OwnRowsSpan
  have := loop_brk (body := spec_l1OwnRowsSpan_L0 s) s.length (fun k => (s.take k, (k : Int))) (s, (s.length : Int)) (fun k hk => by
      unfold spec_l1OwnRowsSpan_L0
      have hx : s[k]? = some s[k] := List.getElem?_eq_getElem hk
      simp only [lt_true (show (k : Int) < (s.length : Int) by omega), cond_true, idx_nat, hx, Option.bind_some, app_nil (hs _ (List.getElem_mem hk)), app_ok (show (s.take k).length + [s[k]].length ≤ 4294967296 by simp; omega), W_succ (show k < 9223372036854775807 by omega)]
      rw [take_snoc hx])
    (by
      unfold spec_l1OwnRowsSpan_L0
      simp only [lt_false (Int.le_refl _), cond_false, List.take_of_length_le (Nat.le_refl _)])
    (fuel := ((((s.length : Int)) : Int) - 0).toNat.succ) (by omega)
  simp only [List.take_zero, Int.natCast_zero] at this
  rw [this]; rfl
theorem B4.rows {s : List (List Span)} (h : B4 s) : spec_l1OwnRowsSpan s = some s := spec_rows (by rw [h.1]; decide) (fun x hx => Nat.le_trans (h.okm x hx) (by decide))
/-! Cutting. -/
/-! Being within. -/
/-! Being the same. -/
/-! The laws. -/
/-! Packets in regions. -/
end Go.PF.F

/- Plain laws: sets from ranges, boxes from tests. -/
namespace Go.PF.F
open Go Go.PF

/-! Adding a range to a set. -/
def addL (s : Span) : List Span → List Span
  | [] => [s]
  | x :: xs => if x.Hi + 1 < s.Lo then x :: addL s xs else if s.Hi + 1 < x.Lo then s :: x :: xs else addL ⟨imin s.Lo x.Lo, imax s.Hi x.Hi⟩ xs
theorem addL_cn : ∀ {xs : List Span} {lo : Int} {s : Span}, Cn lo xs → lo ≤ s.Lo → s.Lo ≤ s.Hi → Cn lo (addL s xs)
  | [], lo, s, _, h0, h1 => ⟨h0, h1, trivial⟩
  | x :: xs, lo, s, h, h0, h1 => by
    unfold addL
    split
    · exact ⟨h.1, h.2.1, addL_cn h.2.2 (by omega) h1⟩
    · split
      · exact ⟨h0, h1, by show s.Hi + 2 ≤ x.Lo; omega, h.2⟩
      · have h2 := h.1
        have h3 := h.2.1
        refine addL_cn (cn_mono h.2.2 (by omega)) (le_imin.2 ⟨h0, h.1⟩) ?_
        show imin s.Lo x.Lo ≤ imax s.Hi x.Hi
        have a : imin s.Lo x.Lo ≤ s.Lo := imin_le.2 (.inl (Int.le_refl _))
        have b : s.Hi ≤ imax s.Hi x.Hi := le_imax.2 (.inl (Int.le_refl _))
        omega
theorem addL_up {top : Int} : ∀ {xs : List Span} {s : Span}, Up top xs → s.Hi ≤ top → Up top (addL s xs)
  | [], s, _, h => fun z hz => by rw [List.mem_singleton.1 hz]; exact h
  | x :: xs, s, hu, h => by
    unfold addL
    have hx := hu x (by simp)
    have ht : Up top xs := fun z hz => hu z (by simp [hz])
    split
    · intro z hz
      rcases List.mem_cons.1 hz with rfl | hz
      · exact hx
      · exact addL_up ht h z hz
    · split
      · intro z hz
        rcases List.mem_cons.1 hz with rfl | hz
        · exact h
        · exact hu z hz
      · exact addL_up ht (imax_le.2 ⟨h, hx⟩)
theorem Set0.add {top : Int} {xs : List Span} {s : Span} (h : Set0 top xs) (h0 : 0 ≤ s.Lo) (h1 : s.Lo ≤ s.Hi) (h2 : s.Hi ≤ top) : Set0 top (addL s xs) := ⟨h.t0, h.t1, addL_cn h.cn h0 h1, addL_up h.up h2⟩
/-! All packets. -/
theorem top_pos {k : Nat} (hk : k < 4) : 0 ≤ topOf k ∧ topOf k ≤ 65535 := by
  match k, hk with
  | 0, _ => decide
  | 1, _ => decide
  | 2, _ => decide
  | 3, _ => decide
/-! Tests. -/
def testL (t : Test) : List Span := if t.Not then otherL (topOf t.Field.toNat) 0 [⟨t.Lo, t.Hi⟩] else [⟨t.Lo, t.Hi⟩]
theorem TV.field {t : Test} (h : TV t) : t.Field = ((t.Field.toNat : Nat) : Int) ∧ t.Field.toNat < 4 := by have := h.1; omega
theorem TV.one {t : Test} (h : TV t) : Set0 (topOf t.Field.toNat) [⟨t.Lo, t.Hi⟩] := Set0.one h.2.1.1 h.2.1.2 h.2.2 (top_pos h.field.2).2
theorem TV.set {t : Test} (h : TV t) : Set0 (topOf t.Field.toNat) (testL t) := by
  unfold testL
  split
  · exact h.one.other
  · exact h.one
theorem B4.set {s : List (List Span)} (h : B4 s) {k : Nat} (hk : k < 4) {x : List Span} (hx : Set0 (topOf k) x) : B4 (s.set k x) :=
  ⟨by rw [List.length_set]; exact h.1, fun j hj => by
    rw [sd_set h.1 hk]
    split
    · rename_i e; subst e; exact hx
    · exact h.2 j hj⟩
/-! How many ranges a meeting has. -/
end Go.PF.F
