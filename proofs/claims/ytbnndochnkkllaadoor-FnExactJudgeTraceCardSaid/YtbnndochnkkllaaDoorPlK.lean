import Derived.Test.YtbnndochnkkllaaDoorPlP
/- Plain laws: sets of numbers. -/
namespace Go.PF.F
open Go Go.PF

/-- A set in its only form, from lo on. -/
def Cn (lo : Int) : List Span → Prop
  | [] => True
  | x :: xs => lo ≤ x.Lo ∧ x.Lo ≤ x.Hi ∧ Cn (x.Hi + 2) xs
def inS (x : Span) (v : Int) : Bool := decide (x.Lo ≤ v ∧ v ≤ x.Hi)
def has (xs : List Span) (v : Int) : Bool := xs.any fun x => inS x v
/-- No number of it is above top. -/
def Up (top : Int) (xs : List Span) : Prop := ∀ x ∈ xs, x.Hi ≤ top
theorem has_nil (v : Int) : has [] v = false := rfl
theorem has_cons (x : Span) (xs : List Span) (v : Int) : has (x :: xs) v = (inS x v || has xs v) := rfl
theorem has_app (xs ys : List Span) (v : Int) : has (xs ++ ys) v = (has xs v || has ys v) := by simp [has]
theorem has_iff {xs : List Span} {v : Int} : has xs v = true ↔ SH xs v := by simp [has, SH, inS]
theorem inS_iff {x : Span} {v : Int} : inS x v = true ↔ x.Lo ≤ v ∧ v ≤ x.Hi := by simp [inS]
theorem cn_mono {lo lo' : Int} {xs : List Span} (h : Cn lo xs) (hl : lo' ≤ lo) : Cn lo' xs := by
  cases xs with
  | nil => trivial
  | cons x xs => exact ⟨Int.le_trans hl h.1, h.2⟩
theorem cn_lo : ∀ {lo : Int} {xs : List Span}, Cn lo xs → ∀ x ∈ xs, lo ≤ x.Lo ∧ x.Lo ≤ x.Hi
  | lo, x :: xs, h, y, hy => by
    rcases List.mem_cons.1 hy with rfl | hy
    · exact ⟨h.1, h.2.1⟩
    · have h0 := h.1
      have h1 := h.2.1
      have := cn_lo h.2.2 y hy
      omega
theorem cn_has {lo v : Int} {xs : List Span} (h : Cn lo xs) (hv : has xs v = true) : lo ≤ v := by
  obtain ⟨x, hx, h1, h2⟩ := has_iff.1 hv
  have := cn_lo h x hx
  omega
theorem cn_ext : ∀ {xs ys : List Span} {lo lo' : Int}, Cn lo xs → Cn lo' ys → (∀ v, has xs v = has ys v) → xs = ys
  | [], [], _, _, _, _, _ => rfl
  | [], y :: ys, _, _, _, h', h => by
    have := h y.Lo
    rw [has_nil, has_cons, inS_iff.2 ⟨Int.le_refl _, h'.2.1⟩] at this
    simp at this
  | x :: xs, [], _, _, h', _, h => by
    have := h x.Lo
    rw [has_nil, has_cons, inS_iff.2 ⟨Int.le_refl _, h'.2.1⟩] at this
    simp at this
  | x :: xs, y :: ys, lo, lo', hx, hy, h => by
    obtain ⟨hx0, hx1, hx2⟩ := hx
    obtain ⟨hy0, hy1, hy2⟩ := hy
    have cnx : Cn x.Lo (x :: xs) := ⟨Int.le_refl _, hx1, hx2⟩
    have cny : Cn y.Lo (y :: ys) := ⟨Int.le_refl _, hy1, hy2⟩
    have ax : has (x :: xs) x.Lo = true := by rw [has_cons, inS_iff.2 ⟨Int.le_refl _, hx1⟩]; rfl
    have ay : has (y :: ys) y.Lo = true := by rw [has_cons, inS_iff.2 ⟨Int.le_refl _, hy1⟩]; rfl
    have e1 : x.Lo = y.Lo := by
      have h1 := cn_has cny ((h _).symm.trans ax)
      have h2 := cn_has cnx ((h _).trans ay)
      omega
    have noteq : ∀ {z : Span} {zs : List Span} {v : Int}, Cn (z.Hi + 2) zs → v = z.Hi + 1 → has (z :: zs) v = false := by
      intro z zs v hz hv
      rw [Bool.eq_false_iff]
      intro hh
      rw [has_cons, Bool.or_eq_true] at hh
      rcases hh with hh | hh
      · have := inS_iff.1 hh; omega
      · have := cn_has hz hh; omega
    have e2 : x.Hi = y.Hi := by
      rcases Int.lt_trichotomy x.Hi y.Hi with hl | he | hl
      · exfalso
        have h1 := noteq hx2 (v := x.Hi + 1) rfl
        rw [h, has_cons, inS_iff.2 ⟨by omega, by omega⟩] at h1
        simp at h1
      · exact he
      · exfalso
        have h1 := noteq hy2 (v := y.Hi + 1) rfl
        rw [← h, has_cons, inS_iff.2 ⟨by omega, by omega⟩] at h1
        simp at h1
    have e : x = y := by
      obtain ⟨a, b⟩ := x
      obtain ⟨c, d⟩ := y
      simp only at e1 e2
      rw [e1, e2]
    subst e
    rw [cn_ext hx2 hy2 fun v => by
      by_cases hv : x.Hi + 2 ≤ v
      · have := h v
        rw [has_cons, has_cons] at this
        have hn : inS x v = false := by rw [Bool.eq_false_iff]; intro hh; have := inS_iff.1 hh; omega
        simpa [hn] using this
      · have h1 : has xs v = false := by rw [Bool.eq_false_iff]; intro hh; exact hv (cn_has hx2 hh)
        have h2 : has ys v = false := by rw [Bool.eq_false_iff]; intro hh; exact hv (cn_has hy2 hh)
        rw [h1, h2]]
theorem cn_app {m : Int} : ∀ {xs ys : List Span} {lo : Int}, Cn lo xs → (∀ x ∈ xs, x.Hi + 2 ≤ m) → lo ≤ m → Cn m ys → Cn lo (xs ++ ys)
  | [], ys, lo, _, _, hl, h => cn_mono h hl
  | x :: xs, ys, lo, hx, hm, hl, h => ⟨hx.1, hx.2.1, cn_app hx.2.2 (fun z hz => hm z (by simp [hz])) (hm x (by simp)) h⟩
theorem cn_left : ∀ {xs ys : List Span} {lo : Int}, Cn lo (xs ++ ys) → Cn lo xs
  | [], _, _, _ => trivial
  | _ :: _, _, _, h => ⟨h.1, h.2.1, cn_left h.2.2⟩
theorem cn_right : ∀ {xs ys : List Span} {lo : Int}, Cn lo (xs ++ ys) → Cn lo ys
  | [], _, _, h => h
  | x :: xs, _, _, h => cn_mono (cn_right h.2.2) (by have := h.1; have := h.2.1; omega)
theorem cn_gap : ∀ {xs ys : List Span} {lo : Int}, Cn lo (xs ++ ys) → ∀ x ∈ xs, ∀ y ∈ ys, x.Hi + 2 ≤ y.Lo
  | x :: xs, ys, lo, h, z, hz, y, hy => by
    rcases List.mem_cons.1 hz with rfl | hz
    · exact (cn_lo h.2.2 y (List.mem_append_right _ hy)).1
    · exact cn_gap h.2.2 z hz y hy
theorem cn_len : ∀ {xs : List Span} {lo top : Int}, Cn lo xs → Up top xs → lo ≤ top + 2 → lo + 2 * (xs.length : Int) ≤ top + 2
  | [], lo, top, _, _, h => by simpa using h
  | x :: xs, lo, top, h, hu, hl => by
    have h1 := hu x (by simp)
    have h0 := h.1
    have h2 := h.2.1
    have := cn_len h.2.2 (fun y hy => hu y (by simp [hy])) (by omega)
    simp only [List.length_cons, Int.natCast_add, Int.natCast_one] at this ⊢
    omega
theorem cn_len' {xs : List Span} {top : Int} (h : Cn 0 xs) (hu : Up top xs) (h0 : 0 ≤ top) (h1 : top ≤ 65535) : xs.length ≤ 32768 := by
  have := cn_len h hu (by omega); omega
theorem has_up {xs : List Span} {top v : Int} (hu : Up top xs) (h : has xs v = true) : v ≤ top := by
  obtain ⟨x, hx, h1, h2⟩ := has_iff.1 h
  have := hu x hx
  omega
/-! The program's validity is this form. -/
/-- A set of numbers up to top, in its only form. -/
structure Set0 (top : Int) (xs : List Span) : Prop where
  t0 : 0 ≤ top
  t1 : top ≤ 65535
  cn : Cn 0 xs
  up : Up top xs
theorem Set0.len {top : Int} {xs : List Span} (h : Set0 top xs) : xs.length ≤ 32768 := cn_len' h.cn h.up h.t0 h.t1
theorem Set0.bound {top v : Int} {xs : List Span} (h : Set0 top xs) (hv : has xs v = true) : 0 ≤ v ∧ v ≤ top := ⟨cn_has h.cn hv, has_up h.up hv⟩
theorem Set0.mem {top : Int} {xs : List Span} (h : Set0 top xs) {x : Span} (hx : x ∈ xs) : 0 ≤ x.Lo ∧ x.Lo ≤ x.Hi ∧ x.Hi ≤ top :=
  have := cn_lo h.cn x hx; ⟨this.1, this.2, h.up x hx⟩
theorem Set0.nil {top : Int} (h0 : 0 ≤ top) (h1 : top ≤ 65535) : Set0 top [] := ⟨h0, h1, trivial, fun _ h => by cases h⟩
theorem Set0.one {top lo hi : Int} (h0 : 0 ≤ lo) (h1 : lo ≤ hi) (h2 : hi ≤ top) (h3 : top ≤ 65535) : Set0 top [⟨lo, hi⟩] :=
  ⟨by omega, h3, ⟨h0, h1, trivial⟩, fun x hx => by rw [List.mem_singleton.1 hx]; exact h2⟩
theorem Set0.ext {top top' : Int} {xs ys : List Span} (h : Set0 top xs) (k : Set0 top' ys) (e : ∀ v, has xs v = has ys v) : xs = ys := cn_ext h.cn k.cn e
theorem Set0.empty_iff {top : Int} {xs : List Span} (h : Set0 top xs) : xs = [] ↔ ∀ v, has xs v = false := by
  constructor
  · rintro rfl v; rfl
  · intro hv
    cases xs with
    | nil => rfl
    | cons x t =>
      have := hv x.Lo
      rw [has_cons, inS_iff.2 ⟨Int.le_refl _, h.cn.2.1⟩] at this
      simp at this

/-! Meetings. -/
def meet1 (x : Span) (b : List Span) : List Span := b.filterMap fun y => if imax x.Lo y.Lo ≤ imin x.Hi y.Hi then some ⟨imax x.Lo y.Lo, imin x.Hi y.Hi⟩ else none
def meetL (a b : List Span) : List Span := a.flatMap fun x => meet1 x b
theorem imax_le {a b c : Int} : imax a b ≤ c ↔ a ≤ c ∧ b ≤ c := by unfold imax; split <;> omega
theorem le_imax {a b c : Int} : c ≤ imax a b ↔ c ≤ a ∨ c ≤ b := by unfold imax; split <;> omega
theorem imin_le {a b c : Int} : imin a b ≤ c ↔ a ≤ c ∨ b ≤ c := by unfold imin; split <;> omega
theorem le_imin {a b c : Int} : c ≤ imin a b ↔ c ≤ a ∧ c ≤ b := by unfold imin; split <;> omega
theorem has_meet1 (x : Span) (b : List Span) (v : Int) : has (meet1 x b) v = (inS x v && has b v) := by
  rw [Bool.eq_iff_iff]
  simp only [Bool.and_eq_true, has_iff, SH, inS_iff, meet1, List.mem_filterMap]
  constructor
  · rintro ⟨z, ⟨y, hy, hz⟩, h1, h2⟩
    split at hz
    · obtain rfl := Option.some.inj hz
      simp only [imax_le, le_imin] at h1 h2
      exact ⟨⟨h1.1, h2.1⟩, y, hy, h1.2, h2.2⟩
    · cases hz
  · rintro ⟨⟨h1, h2⟩, y, hy, h3, h4⟩
    refine ⟨⟨imax x.Lo y.Lo, imin x.Hi y.Hi⟩, ⟨y, hy, if_pos ?_⟩, imax_le.2 ⟨h1, h3⟩, le_imin.2 ⟨h2, h4⟩⟩
    have := (imax_le (c := v)).2 ⟨h1, h3⟩
    have := (le_imin (c := v)).2 ⟨h2, h4⟩
    omega
theorem has_meetL (a b : List Span) (v : Int) : has (meetL a b) v = (has a v && has b v) := by
  induction a with
  | nil => rfl
  | cons x t ih =>
    rw [show meetL (x :: t) b = meet1 x b ++ meetL t b from by simp [meetL], has_app, ih, has_meet1, has_cons]
    cases inS x v <;> cases has t v <;> cases has b v <;> rfl
theorem meet1_hi {x : Span} {b : List Span} {z : Span} (h : z ∈ meet1 x b) : z.Hi ≤ x.Hi ∧ (∃ y ∈ b, z.Hi ≤ y.Hi) := by
  simp only [meet1, List.mem_filterMap] at h
  obtain ⟨y, hy, hz⟩ := h
  split at hz
  · obtain rfl := Option.some.inj hz
    exact ⟨imin_le.2 (.inl (Int.le_refl _)), y, hy, imin_le.2 (.inr (Int.le_refl _))⟩
  · cases hz
theorem cn_meet1 (x : Span) : ∀ {b : List Span} {lo m : Int}, Cn lo b → m ≤ x.Lo ∨ m ≤ lo → Cn m (meet1 x b)
  | [], _, _, _, _ => trivial
  | y :: b, lo, m, h, hm => by
    have hy0 := h.1
    have hy1 := h.2.1
    have key : meet1 x (y :: b) = (if imax x.Lo y.Lo ≤ imin x.Hi y.Hi then [⟨imax x.Lo y.Lo, imin x.Hi y.Hi⟩] else []) ++ meet1 x b := by
      unfold meet1
      rw [List.filterMap_cons]
      split <;> rename_i h1 <;> split at h1 <;> rename_i h2
      · cases h1
      · rw [if_neg h2]; rfl
      · obtain rfl := Option.some.inj h1; rw [if_pos h2]; rfl
      · cases h1
    rw [key]
    split
    · rename_i hle
      refine ⟨?_, hle, cn_meet1 x h.2.2 (.inr ?_)⟩
      · show m ≤ imax x.Lo y.Lo
        rw [le_imax]; omega
      · have : imin x.Hi y.Hi ≤ y.Hi := imin_le.2 (.inr (Int.le_refl _))
        show imin x.Hi y.Hi + 2 ≤ y.Hi + 2
        omega
    · exact cn_meet1 x h.2.2 (by rcases hm with hm | hm <;> omega)
theorem cn_meetL {b : List Span} {lo' : Int} (hb : Cn lo' b) : ∀ {a : List Span} {lo : Int}, Cn lo a → Cn lo (meetL a b)
  | [], _, _ => trivial
  | x :: a, lo, h => by
    rw [show meetL (x :: a) b = meet1 x b ++ meetL a b from by simp [meetL]]
    have h0 := h.1
    have h1 := h.2.1
    exact cn_app (m := x.Hi + 2) (cn_meet1 x hb (.inl h.1)) (fun z hz => by have := (meet1_hi hz).1; omega) (by omega) (cn_meetL hb h.2.2)
theorem up_meetL {a b : List Span} {top : Int} (ha : Up top a) : Up top (meetL a b) := by
  intro z hz
  simp only [meetL, List.mem_flatMap] at hz
  obtain ⟨x, hx, hz⟩ := hz
  have := (meet1_hi hz).1
  have := ha x hx
  omega
theorem Set0.meet {top top' : Int} {a b : List Span} (ha : Set0 top a) (hb : Set0 top' b) : Set0 top (meetL a b) := ⟨ha.t0, ha.t1, cn_meetL hb.cn ha.cn, up_meetL ha.up⟩
theorem meet1_len (x : Span) (b : List Span) : (meet1 x b).length ≤ b.length := List.length_filterMap_le ..
theorem meetL_len (a b : List Span) : (meetL a b).length ≤ a.length * b.length := by
  induction a with
  | nil => simp [meetL]
  | cons x t ih =>
    rw [show meetL (x :: t) b = meet1 x b ++ meetL t b from by simp [meetL], List.length_append, List.length_cons, Nat.add_mul]
    have := meet1_len x b
    omega
theorem meet1_snoc (x : Span) (ys : List Span) (y : Span) : meet1 x (ys ++ [y]) = meet1 x ys ++ meet1 x [y] := by simp [meet1]
theorem meetL_snoc (ys : List Span) (y : Span) (b : List Span) : meetL (ys ++ [y]) b = meetL ys b ++ meet1 y b := by simp [meetL]
theorem spec_meet {a b : List Span} (ha : a.length ≤ 40000) (hb : b.length ≤ 40000) : spec_l2Meet a b = some (meetL a b) := by
  have hab : a.length * b.length ≤ 40000 * 40000 := Nat.mul_le_mul ha hb
  have inner : ∀ (k : Nat) (x : Span) (acc : List Span), a[k]? = some x → acc.length ≤ 1700000000 → k < a.length →
      loopF (spec_l2Meet_L1 a b (k : Int)) (((b.length : Int)) - 0).toNat.succ (acc, 0) = some (.brk (acc ++ meet1 x b, (b.length : Int))) := by
    intro k x acc hx hacc hk
    have := loop_brk (body := spec_l2Meet_L1 a b (k : Int)) b.length (fun j => (acc ++ meet1 x (b.take j), (j : Int))) (acc ++ meet1 x b, (b.length : Int)) (fun j hj => by
      unfold spec_l2Meet_L1
      have hy : b[j]? = some b[j] := List.getElem?_eq_getElem hj
      simp only [lt_true (show (j : Int) < (b.length : Int) by omega), cond_true, idx_nat, hx, hy, Option.bind_some, W_succ (show j < 9223372036854775807 by omega)]
      rw [take_snoc hy, meet1_snoc, show meet1 x [b[j]] = if imax x.Lo b[j].Lo ≤ imin x.Hi b[j].Hi then [⟨imax x.Lo b[j].Lo, imin x.Hi b[j].Hi⟩] else [] from by simp only [meet1, List.filterMap_cons, List.filterMap_nil]; split <;> simp_all]
      have hl := meet1_len x (b.take j)
      have hl2 : (b.take j).length ≤ b.length := by rw [List.length_take]; omega
      by_cases hc : imax x.Lo b[j].Lo ≤ imin x.Hi b[j].Hi
      · rw [le_true hc, cond_true, app_ok (by simp; omega), if_pos hc, Option.bind_some, List.append_assoc]
      · rw [decide_eq_false hc, cond_false, if_neg hc, List.append_nil])
      (by
        unfold spec_l2Meet_L1
        simp only [lt_false (Int.le_refl _), cond_false, List.take_of_length_le (Nat.le_refl _)])
      (fuel := (((b.length : Int)) - 0).toNat.succ) (by omega)
    simpa [meet1] using this
  unfold spec_l2Meet
  have := loop_brk (body := spec_l2Meet_L0 a b) a.length (fun k => (meetL (a.take k) b, (k : Int))) (meetL a b, (a.length : Int)) (fun k hk => by
      unfold spec_l2Meet_L0
      have hx : a[k]? = some a[k] := List.getElem?_eq_getElem hk
      have hl := meetL_len (a.take k) b
      have hl2 : (a.take k).length * b.length ≤ 40000 * 40000 := Nat.mul_le_mul (by rw [List.length_take]; omega) hb
      simp only [lt_true (show (k : Int) < (a.length : Int) by omega), cond_true, inner k a[k] (meetL (a.take k) b) hx (by omega) hk, Option.bind_some, LR.on, W_succ (show k < 9223372036854775807 by omega)]
      rw [take_snoc hx, meetL_snoc])
    (by
      unfold spec_l2Meet_L0
      simp only [lt_false (Int.le_refl _), cond_false, List.take_of_length_le (Nat.le_refl _)])
    (fuel := (((a.length : Int)) - 0).toNat.succ) (by omega)
  simp only [List.take_zero] at this
  rw [show (meetL [] b, ((0 : Nat) : Int)) = (([] : List Span), (0 : Int)) from rfl] at this
  rw [this]; rfl

/-! What is not in a set. -/
def otherL (top : Int) : Int → List Span → List Span
  | at_, [] => if at_ ≤ top then [⟨at_, top⟩] else []
  | at_, x :: xs => (if at_ < x.Lo then [⟨at_, x.Lo - 1⟩] else []) ++ otherL top (x.Hi + 1) xs
theorem otherL_len (top : Int) : ∀ (at_ : Int) (xs : List Span), (otherL top at_ xs).length ≤ xs.length + 1
  | at_, [] => by unfold otherL; split <;> simp
  | at_, x :: xs => by
    unfold otherL
    have := otherL_len top (x.Hi + 1) xs
    split <;> simp <;> omega
theorem cn_other {top : Int} : ∀ {xs : List Span} {lo at_ : Int}, Cn lo xs → at_ ≤ lo → Cn at_ (otherL top at_ xs)
  | [], lo, at_, _, _ => by
    unfold otherL
    split
    · exact ⟨Int.le_refl _, by assumption, trivial⟩
    · trivial
  | x :: xs, lo, at_, h, hl => by
    unfold otherL
    have h0 := h.1
    have h1 := h.2.1
    have ih : Cn (x.Hi + 1) (otherL top (x.Hi + 1) xs) := cn_other h.2.2 (by omega)
    split
    · exact ⟨Int.le_refl _, by simp only; omega, cn_mono ih (by simp only; omega)⟩
    · exact cn_mono ih (by omega)
theorem has_other {top : Int} : ∀ {xs : List Span} {lo at_ v : Int}, Cn lo xs → Up top xs → at_ ≤ lo → has (otherL top at_ xs) v = (decide (at_ ≤ v ∧ v ≤ top) && !has xs v)
  | [], lo, at_, v, _, _, _ => by
    unfold otherL
    rw [Bool.eq_iff_iff]
    split
    · simp [has, inS]
    · simp [has]; omega
  | x :: xs, lo, at_, v, h, hu, hl => by
    unfold otherL
    have h0 := h.1
    have h1 := h.2.1
    have h2 := hu x (by simp)
    have ih := has_other (top := top) (v := v) (at_ := x.Hi + 1) h.2.2 (fun y hy => hu y (by simp [hy])) (by omega)
    rw [has_app, ih, has_cons]
    have hsplit : has (if at_ < x.Lo then [(⟨at_, x.Lo - 1⟩ : Span)] else []) v = decide (at_ ≤ v ∧ v < x.Lo) := by
      rw [Bool.eq_iff_iff]
      split
      · simp [has, inS]; omega
      · simp [has]; omega
    rw [hsplit]
    have hlow : has xs v = true → x.Hi + 2 ≤ v := fun hh => cn_has h.2.2 hh
    rw [Bool.eq_iff_iff]
    simp only [Bool.or_eq_true, decide_eq_true_eq, Bool.and_eq_true, Bool.not_eq_true', Bool.or_eq_false_iff]
    have hin : inS x v = false ↔ ¬ (x.Lo ≤ v ∧ v ≤ x.Hi) := by rw [Bool.eq_false_iff, ne_eq, inS_iff]
    rw [hin]
    constructor
    · rintro (h3 | ⟨h3, h4⟩)
      · refine ⟨⟨h3.1, by omega⟩, by omega, ?_⟩
        rw [Bool.eq_false_iff]; intro hh; have := hlow hh; omega
      · exact ⟨⟨by omega, h3.2⟩, by omega, h4⟩
    · rintro ⟨h3, h4, h5⟩
      by_cases h6 : v < x.Lo
      · exact .inl ⟨h3.1, h6⟩
      · exact .inr ⟨⟨by omega, h3.2⟩, h5⟩
theorem up_other {top : Int} : ∀ {xs : List Span} {lo at_ : Int}, Cn lo xs → Up top xs → Up top (otherL top at_ xs)
  | [], _, at_, _, _ => by
    unfold otherL
    split
    · intro z hz; rw [List.mem_singleton.1 hz]; exact Int.le_refl _
    · intro z hz; cases hz
  | x :: xs, _, at_, h, hu => by
    unfold otherL
    have ih := up_other (top := top) (at_ := x.Hi + 1) h.2.2 (fun y hy => hu y (by simp [hy]))
    have h1 := h.2.1
    have h2 := hu x (by simp)
    intro z hz
    rcases List.mem_append.1 hz with hz | hz
    · split at hz
      · rw [List.mem_singleton.1 hz]; simp only; omega
      · cases hz
    · exact ih z hz
theorem Set0.other {top : Int} {xs : List Span} (h : Set0 top xs) : Set0 top (otherL top 0 xs) := ⟨h.t0, h.t1, cn_other h.cn (Int.le_refl _), up_other h.cn h.up⟩
theorem Set0.has_other {top : Int} {xs : List Span} (h : Set0 top xs) (v : Int) : has (otherL top 0 xs) v = (decide (0 ≤ v ∧ v ≤ top) && !has xs v) := F.has_other h.cn h.up (Int.le_refl _)
theorem spec_other {a : List Span} {top : Int} (ha : Set0 top a) : spec_l2Other a top = some (otherL top 0 a) := by
  have hal := ha.len
  have h1 := ha.t1
  have h0 := ha.t0
  unfold spec_l2Other
  obtain ⟨o, ho, hq⟩ := loop_wf (body := spec_l2Other_L0 a)
    (fun s => ∃ k : Nat, s.2.2 = (k : Int) ∧ k ≤ a.length ∧ 0 ≤ s.2.1 ∧ s.2.1 ≤ 65536 ∧ s.1.length ≤ k ∧ s.1 ++ otherL top s.2.1 (a.drop k) = otherL top 0 a) (fun s => a.length - s.2.2.toNat)
    (fun o => ∃ s : List Span × Int × Int, o = .brk s ∧ s.1.length ≤ 40000 ∧ s.1 ++ (if s.2.1 ≤ top then [⟨s.2.1, top⟩] else []) = otherL top 0 a)
    (fun s ⟨k, h1, h2, h3, h4, h5, h6⟩ => by
      obtain ⟨y, at_, i⟩ := s
      simp only at h1 h3 h4 h5 h6
      subst h1
      rcases drop_cases a k h2 with ⟨e, rfl⟩ | ⟨x, t, e, hk, hx, et⟩
      · refine .inr (.inl ⟨(y, at_, (a.length : Int)), ?_, _, rfl, by simp only; omega, ?_⟩)
        · unfold spec_l2Other_L0
          simp only [lt_false (Int.le_refl _), cond_false]
        · rw [e] at h6; exact h6
      · have hm := ha.mem (x := x) (List.mem_of_mem_drop (i := k) (by rw [e]; simp))
        rw [e] at h6
        rw [show otherL top at_ (x :: t) = (if at_ < x.Lo then [⟨at_, x.Lo - 1⟩] else []) ++ otherL top (x.Hi + 1) t from rfl] at h6
        by_cases hc : at_ < x.Lo
        · refine .inl ⟨(y ++ [⟨at_, x.Lo - 1⟩], x.Hi + 1, ((k + 1 : Nat) : Int)), ?_, ⟨k + 1, rfl, hk, by simp only; omega, by simp only; omega, by simp; omega, ?_⟩, by simp; omega⟩
          · unfold spec_l2Other_L0
            simp only [lt_true (show (k : Int) < (a.length : Int) by omega), cond_true, hx, Option.bind_some, lt_true hc, app_ok (show y.length + [(⟨at_, x.Lo - 1⟩ : Span)].length ≤ 4294967296 by simp; omega), W_succ (show k < 9223372036854775807 by omega), W_of (show -9223372036854775808 ≤ x.Hi + 1 by omega) (by omega), W_of (show -9223372036854775808 ≤ x.Lo - 1 by omega) (by omega)]
          · rw [if_pos hc] at h6
            rw [et]; simpa using h6
        · refine .inl ⟨(y, x.Hi + 1, ((k + 1 : Nat) : Int)), ?_, ⟨k + 1, rfl, hk, by simp only; omega, by simp only; omega, by simp only; omega, ?_⟩, by simp; omega⟩
          · unfold spec_l2Other_L0
            simp only [lt_true (show (k : Int) < (a.length : Int) by omega), cond_true, hx, Option.bind_some, decide_eq_false hc, cond_false, W_succ (show k < 9223372036854775807 by omega), W_of (show -9223372036854775808 ≤ x.Hi + 1 by omega) (by omega)]
          · rw [if_neg hc] at h6
            rw [et]; simpa using h6)
    (((a.length : Int)) - 0).toNat.succ (([] : List Span), 0, 0) ⟨0, rfl, Nat.zero_le _, by simp, by simp, by simp, by simp⟩ (by simp)
  rw [ho]
  obtain ⟨⟨y, at_, i⟩, rfl, hl, he⟩ := hq
  simp only [Option.bind_some, LR.on]
  simp only at hl he
  by_cases hc : at_ ≤ top
  · rw [le_true hc, cond_true, app_ok (by simp; omega), Option.bind_some]
    rw [if_pos hc] at he; rw [he]
  · rw [decide_eq_false hc, cond_false]
    rw [if_neg hc] at he
    simp only [List.append_nil] at he
    rw [he]
def lessL (top : Int) (a b : List Span) : List Span := meetL a (otherL top 0 b)
theorem Set0.less {top : Int} {a b : List Span} (ha : Set0 top a) (hb : Set0 top b) : Set0 top (lessL top a b) := ha.meet hb.other
theorem has_less {top : Int} {a b : List Span} (ha : Set0 top a) (hb : Set0 top b) (v : Int) : has (lessL top a b) v = (has a v && !has b v) := by
  unfold lessL
  rw [has_meetL, hb.has_other]
  cases h : has a v with
  | false => rfl
  | true =>
    have := ha.bound h
    rw [decide_eq_true this]
    simp
end Go.PF.F

/- Plain laws: the program's sweeps along two sets. -/
namespace Go.PF.F
open Go Go.PF

def swL (a : List Span) (at_ : Int) : Int × (List Span) → Option (SR (Int × (List Span)) ((List Span))) := fun (k6, y4) =>
  bif (decide (k6 < (a.length : Int))) then
  (idx a k6).bind fun x2 =>
  bif (decide (x2.Hi < at_)) then
  some (.nxt ((W (k6 + 1)), y4))
  else
  some (.brk (k6, y4))
  else
  some (.brk (k6, y4))
def swB (keep : Bool → Bool → Option Bool) (a b : List Span) (top : Int) : (List Span) × Int × Int × Int → Option (SR ((List Span) × Int × Int × Int) ((List Span))) := fun (y1, k1, k2, k3) =>
  bif (decide (k3 ≤ top)) then
  (loopF (swL a k3) ((((a.length : Int)) : Int) - k1).toNat.succ (k1, y1)).bind fun lr => lr.on (fun (k5, y3) =>
  (loopF (swL b k3) ((((b.length : Int)) : Int) - k2).toNat.succ (k2, y3)).bind fun lr => lr.on (fun (k7, y5) =>
  (dropF a k5).bind fun y6 =>
  (impl_stretch y6 k3 top).bind fun x3 =>
  (dropF b k7).bind fun y7 =>
  (impl_stretch y7 k3 top).bind fun x4 =>
  (keep x3.1 x4.1).bind fun x5 =>
  bif x5 then
  bif (decide (0 < (y5.length : Int))) then
  (idx y5 (W ((y5.length : Int) - 1))).bind fun x6 =>
  bif ((W (x6.Hi + 1)) == k3) then
  some (.nxt ((List.set y5 ((W ((y5.length : Int) - 1)) : Int).toNat { x6 with Hi := (imin x3.2 x4.2) }), k5, k7, (W ((imin x3.2 x4.2) + 1))))
  else
  (appF y5 [({ Lo := k3, Hi := (imin x3.2 x4.2) } : Span)]).bind fun z1 =>
  some (.nxt (z1, k5, k7, (W ((imin x3.2 x4.2) + 1))))
  else
  (appF y5 [({ Lo := k3, Hi := (imin x3.2 x4.2) } : Span)]).bind fun z2 =>
  some (.nxt (z2, k5, k7, (W ((imin x3.2 x4.2) + 1))))
  else
  some (.nxt (y5, k5, k7, (W ((imin x3.2 x4.2) + 1))))) (fun r => some (.ret r))) (fun r => some (.ret r))
  else
  some (.brk (y1, k1, k2, k3))
def sweepG (keep : Bool → Bool → Option Bool) (a b : List Span) (top : Int) : Option ((List Span)) :=
  (loopF (swB keep a b top) (((top) : Int) - 0 + 1).toNat.succ (([] : List Span), 0, 0, 0)).bind fun lr => lr.on (fun (y8, _, _, _) =>
  some y8) (fun r => some r)
theorem sweep_both (a b : List Span) (top : Int) : impl_sweepSpans__impl_inBoth a b top = sweepG impl_inBoth a b top := rfl
theorem snoc_cases {α : Type} (xs : List α) : xs = [] ∨ ∃ ys x, xs = ys ++ [x] := by
  rcases List.eq_nil_or_concat xs with h | ⟨ys, x, h⟩
  · exact .inl h
  · exact .inr ⟨ys, x, by simpa using h⟩
theorem cn_snoc {lo : Int} {ys : List Span} {z : Span} (h : Cn lo ys) (hg : ∀ y ∈ ys, y.Hi + 2 ≤ z.Lo) (h0 : lo ≤ z.Lo) (h1 : z.Lo ≤ z.Hi) : Cn lo (ys ++ [z]) :=
  cn_app h hg h0 ⟨Int.le_refl _, h1, trivial⟩
theorem stretch_at {a p q : List Span} {top at_ : Int} (ha : Set0 top a) (e : a = p ++ q) (hp : ∀ x ∈ p, x.Hi < at_) (hq : ∀ x, q.head? = some x → at_ ≤ x.Hi) (_h0 : 0 ≤ at_) (h1 : at_ ≤ top) :
    ∃ f e', impl_stretch q at_ top = some (f, e') ∧ at_ ≤ e' ∧ e' ≤ top ∧ ∀ v, at_ ≤ v → v ≤ e' → has a v = f := by
  have hpv : ∀ v, at_ ≤ v → has a v = has q v := by
    intro v hv
    rw [e, has_app]
    have : has p v = false := by
      rw [Bool.eq_false_iff]
      intro hh
      obtain ⟨x, hx, _, h2⟩ := has_iff.1 hh
      have := hp x hx
      omega
    rw [this]; rfl
  cases q with
  | nil => exact ⟨false, top, rfl, h1, Int.le_refl _, fun v hv _ => by rw [hpv v hv]; rfl⟩
  | cons x t =>
    have hm := ha.mem (x := x) (by rw [e]; simp)
    have hx := hq x rfl
    have hc : Cn 0 (x :: t) := cn_right (e ▸ ha.cn)
    have ht1 := ha.t1
    unfold impl_stretch
    rw [show (((x :: t).length : Int) == 0) = false from by simp; omega, cond_false, show idx (x :: t) 0 = some x from rfl, Option.bind_some]
    by_cases hl : at_ < x.Lo
    · rw [lt_true hl, cond_true, W_of (by omega) (by omega)]
      refine ⟨false, _, rfl, by omega, by omega, fun v hv hv2 => ?_⟩
      rw [hpv v hv, Bool.eq_false_iff]
      intro hh
      have := cn_has (lo := x.Lo) (xs := x :: t) ⟨Int.le_refl _, hc.2⟩ hh
      omega
    · rw [decide_eq_false hl, cond_false]
      refine ⟨true, _, rfl, hx, hm.2.2, fun v hv hv2 => ?_⟩
      rw [hpv v hv, has_cons, inS_iff.2 ⟨by omega, hv2⟩]; rfl
theorem skip_at {a : List Span} {at_ : Int} (hl : a.length ≤ 40000) {i : Nat} (hi : i ≤ a.length) (hp : ∀ x ∈ a.take i, x.Hi < at_) (y : List Span) :
    ∃ j : Nat, loopF (swL a at_) ((((a.length : Int)) : Int) - (i : Int)).toNat.succ ((i : Int), y) = some (.brk ((j : Int), y)) ∧ j ≤ a.length ∧ (∀ x ∈ a.take j, x.Hi < at_) ∧ ∀ x, (a.drop j).head? = some x → at_ ≤ x.Hi := by
  obtain ⟨o, ho, j, rfl, hj⟩ := loop_wf (body := swL a at_) (fun s => ∃ k : Nat, s = ((k : Int), y) ∧ k ≤ a.length ∧ ∀ x ∈ a.take k, x.Hi < at_) (fun s => a.length - s.1.toNat)
    (fun o => ∃ j : Nat, o = .brk ((j : Int), y) ∧ j ≤ a.length ∧ (∀ x ∈ a.take j, x.Hi < at_) ∧ ∀ x, (a.drop j).head? = some x → at_ ≤ x.Hi)
    (fun s ⟨k, h1, h2, h3⟩ => by
      subst h1
      rcases drop_cases a k h2 with ⟨e, rfl⟩ | ⟨x, t, e, hk, hx, et⟩
      · refine .inr (.inl ⟨_, ?_, _, rfl, h2, h3, fun x hx => by rw [e] at hx; cases hx⟩)
        unfold swL
        simp only [lt_false (Int.le_refl _), cond_false]
      · by_cases hc : x.Hi < at_
        · refine .inl ⟨(((k + 1 : Nat) : Int), y), ?_, ⟨k + 1, rfl, hk, fun z hz => ?_⟩, by simp; omega⟩
          · unfold swL
            simp only [lt_true (show (k : Int) < (a.length : Int) by omega), cond_true, hx, Option.bind_some, lt_true hc, W_succ (show k < 9223372036854775807 by omega)]
          · rw [take_snoc (x := x) (by rw [idx_nat] at hx; exact hx)] at hz
            rcases List.mem_append.1 hz with hz | hz
            · exact h3 z hz
            · rw [List.mem_singleton.1 hz]; exact hc
        · refine .inr (.inl ⟨_, ?_, k, rfl, h2, h3, fun z hz => ?_⟩)
          · unfold swL
            simp only [lt_true (show (k : Int) < (a.length : Int) by omega), cond_true, hx, Option.bind_some, decide_eq_false hc, cond_false]
          · rw [e] at hz
            simp only [List.head?_cons, Option.some.injEq] at hz
            subst hz; omega)
    ((((a.length : Int)) : Int) - (i : Int)).toNat.succ ((i : Int), y) ⟨i, rfl, hi, hp⟩ (by simp only [Int.toNat_natCast]; omega)
  exact ⟨j, ho, hj⟩
theorem sweep_is {keep : Bool → Bool → Option Bool} {kp : Bool → Bool → Bool} (hk : ∀ p q, keep p q = some (kp p q)) {a b : List Span} {top : Int} (ha : Set0 top a) (hb : Set0 top b) :
    ∃ out, sweepG keep a b top = some out ∧ Set0 top out ∧ ∀ v, has out v = (decide (0 ≤ v ∧ v ≤ top) && kp (has a v) (has b v)) := by
  have ht0 := ha.t0
  have ht1 := ha.t1
  have hal := ha.len
  have hbl := hb.len
  unfold sweepG
  obtain ⟨o, ho, hq⟩ := loop_wf (body := swB keep a b top)
    (fun s => ∃ i j : Nat, s.2.1 = (i : Int) ∧ s.2.2.1 = (j : Int) ∧ i ≤ a.length ∧ j ≤ b.length ∧ (∀ x ∈ a.take i, x.Hi < s.2.2.2) ∧ (∀ x ∈ b.take j, x.Hi < s.2.2.2) ∧ 0 ≤ s.2.2.2 ∧ s.2.2.2 ≤ top + 1 ∧ Cn 0 s.1 ∧ (∀ x ∈ s.1, x.Hi < s.2.2.2) ∧
      ∀ v, has s.1 v = (decide (0 ≤ v ∧ v < s.2.2.2) && kp (has a v) (has b v)))
    (fun s => (top + 1 - s.2.2.2).toNat)
    (fun o => ∃ s : List Span × Int × Int × Int, o = .brk s ∧ Cn 0 s.1 ∧ (∀ x ∈ s.1, x.Hi < top + 1) ∧ ∀ v, has s.1 v = (decide (0 ≤ v ∧ v < top + 1) && kp (has a v) (has b v)))
    (fun s ⟨i, j, e1, e2, hi, hj, hpa, hpb, h0, h1, hcn, hup, hhas⟩ => by
      obtain ⟨y, i', j', at_⟩ := s
      simp only at e1 e2 hpa hpb h0 h1 hcn hup hhas
      subst e1; subst e2
      by_cases hat : at_ ≤ top
      · obtain ⟨i2, hl1, hi2, hpa2, hqa⟩ := skip_at (by omega) hi hpa y
        obtain ⟨j2, hl2, hj2, hpb2, hqb⟩ := skip_at (by omega) hj hpb y
        obtain ⟨f1, n1, hs1, hn1, hn1', hf1⟩ := stretch_at ha (List.take_append_drop i2 a).symm hpa2 hqa h0 hat
        obtain ⟨f2, n2, hs2, hn2, hn2', hf2⟩ := stretch_at hb (List.take_append_drop j2 b).symm hpb2 hqb h0 hat
        have hd1 : dropF a (i2 : Int) = some (a.drop i2) := by unfold dropF; rw [if_pos ⟨by omega, by omega⟩]; rfl
        have hd2 : dropF b (j2 : Int) = some (b.drop j2) := by unfold dropF; rw [if_pos ⟨by omega, by omega⟩]; rfl
        have hen : at_ ≤ imin n1 n2 := le_imin.2 ⟨hn1, hn2⟩
        have hen2 : imin n1 n2 ≤ top := imin_le.2 (.inl hn1')
        have hv1 : imin n1 n2 ≤ n1 := imin_le.2 (.inl (Int.le_refl _))
        have hv2 : imin n1 n2 ≤ n2 := imin_le.2 (.inr (Int.le_refl _))
        generalize hE : imin n1 n2 = en at hen hen2 hv1 hv2
        have hW : W (en + 1) = en + 1 := W_of (by omega) (by omega)
        have hyl : y.length ≤ 32768 := cn_len' hcn (fun x hx => by have := hup x hx; omega) ht0 ht1
        have fin : ∀ y', swB keep a b top (y, (i : Int), (j : Int), at_) = some (.nxt (y', (i2 : Int), (j2 : Int), en + 1)) → Cn 0 y' → (∀ x ∈ y', x.Hi < en + 1) → (∀ v, has y' v = (has y v || (kp f1 f2 && decide (at_ ≤ v ∧ v ≤ en)))) →
            (∃ s', swB keep a b top (y, (i : Int), (j : Int), at_) = some (.nxt s') ∧ (∃ i j : Nat, s'.2.1 = (i : Int) ∧ s'.2.2.1 = (j : Int) ∧ i ≤ a.length ∧ j ≤ b.length ∧ (∀ x ∈ a.take i, x.Hi < s'.2.2.2) ∧ (∀ x ∈ b.take j, x.Hi < s'.2.2.2) ∧ 0 ≤ s'.2.2.2 ∧ s'.2.2.2 ≤ top + 1 ∧ Cn 0 s'.1 ∧ (∀ x ∈ s'.1, x.Hi < s'.2.2.2) ∧
              ∀ v, has s'.1 v = (decide (0 ≤ v ∧ v < s'.2.2.2) && kp (has a v) (has b v))) ∧ (top + 1 - s'.2.2.2).toNat < (top + 1 - at_).toNat) := by
          intro y' hb' hc' hu' hh'
          refine ⟨_, hb', ⟨i2, j2, rfl, rfl, hi2, hj2, fun x hx => by have := hpa2 x hx; simp only; omega, fun x hx => by have := hpb2 x hx; simp only; omega, by simp only; omega, by simp only; omega, hc', hu', fun v => ?_⟩, by simp only; omega⟩
          simp only
          rw [hh', hhas]
          by_cases hv : at_ ≤ v ∧ v ≤ en
          · rw [hf1 v hv.1 (by omega), hf2 v hv.1 (by omega), decide_eq_true hv, decide_eq_false (show ¬ (0 ≤ v ∧ v < at_) by omega), decide_eq_true (show 0 ≤ v ∧ v < en + 1 by omega)]
            simp
          · rw [decide_eq_false hv]
            have : decide (0 ≤ v ∧ v < en + 1) = decide (0 ≤ v ∧ v < at_) := by
              rw [decide_eq_decide]; omega
            rw [this]; simp
        refine .inl ?_
        cases hc : kp f1 f2 with
        | false =>
          refine fin y ?_ hcn (fun x hx => by have := hup x hx; omega) (fun v => by rw [hc]; simp)
          unfold swB
          simp only [le_true hat, cond_true, hl1, Option.bind_some, LR.on, hl2, hd1, hs1, hd2, hs2, hk, hc, cond_false, hE, hW]
        | true =>
          rcases snoc_cases y with rfl | ⟨ys, x, rfl⟩
          · refine fin [⟨at_, en⟩] ?_ ⟨h0, hen, trivial⟩ (fun x hx => by rw [List.mem_singleton.1 hx]; simp only; omega) (fun v => by rw [hc, has_cons, has_nil]; simp [inS])
            unfold swB
            simp only [le_true hat, cond_true, hl1, Option.bind_some, LR.on, hl2, hd1, hs1, hd2, hs2, hk, hc, hE, hW, List.length_nil, Int.natCast_zero, lt_false (Int.le_refl 0), cond_false, app_nil (show [(⟨at_, en⟩ : Span)].length ≤ 4294967296 by simp)]
          · have hlen : (ys ++ [x]).length = ys.length + 1 := by simp
            rw [hlen] at hyl
            have hn : W (((ys ++ [x]).length : Int) - 1) = (ys.length : Int) := by rw [hlen, W_of (by omega) (by omega)]; omega
            have hid : idx (ys ++ [x]) (ys.length : Int) = some x := by rw [idx_nat]; simp
            have hx1 := hup x (by simp)
            have hx0 := cn_lo hcn x (by simp)
            have hWx : W (x.Hi + 1) = x.Hi + 1 := W_of (by omega) (by omega)
            have hgap : ∀ z ∈ ys, z.Hi + 2 ≤ x.Lo := fun z hz => cn_gap hcn z hz x (by simp)
            by_cases hj : x.Hi + 1 = at_
            · refine fin (ys ++ [⟨x.Lo, en⟩]) ?_ (cn_snoc (cn_left hcn) hgap hx0.1 (by simp only; omega)) (fun z hz => ?_) (fun v => ?_)
              · unfold swB
                have hset : List.set (ys ++ [x]) ys.length ({ x with Hi := en } : Span) = ys ++ [⟨x.Lo, en⟩] := by simp
                simp only [le_true hat, cond_true, hl1, Option.bind_some, LR.on, hl2, hd1, hs1, hd2, hs2, hk, hc, hE, hW, lt_true (show (0 : Int) < ((ys ++ [x]).length : Int) by rw [hlen]; omega), hn, hid, hWx.trans hj, beq_self_eq_true, Int.toNat_natCast, hset]
              · rcases List.mem_append.1 hz with hz | hz
                · have := hup z (by simp [hz]); omega
                · rw [List.mem_singleton.1 hz]; simp only; omega
              · rw [hc, has_app, has_app, has_cons, has_cons, has_nil, Bool.or_false, Bool.or_false, Bool.or_assoc, Bool.true_and]
                congr 1
                rw [Bool.eq_iff_iff]
                simp only [Bool.or_eq_true, inS_iff, decide_eq_true_eq]
                omega
            · refine fin ((ys ++ [x]) ++ [⟨at_, en⟩]) ?_ (cn_snoc hcn (fun z hz => ?_) h0 hen) (fun z hz => ?_) (fun v => ?_)
              · unfold swB
                simp only [le_true hat, cond_true, hl1, Option.bind_some, LR.on, hl2, hd1, hs1, hd2, hs2, hk, hc, hE, hW, lt_true (show (0 : Int) < ((ys ++ [x]).length : Int) by rw [hlen]; omega), hn, hid, hWx, beq_eq_false_iff_ne.2 hj, cond_false, app_ok (show (ys ++ [x]).length + [(⟨at_, en⟩ : Span)].length ≤ 4294967296 by rw [hlen]; simp; omega)]
              · rcases List.mem_append.1 hz with hz | hz
                · have := hgap z hz; simp only; omega
                · rw [List.mem_singleton.1 hz]; simp only; omega
              · rcases List.mem_append.1 hz with hz | hz
                · have := hup z hz; omega
                · rw [List.mem_singleton.1 hz]; simp only; omega
              · rw [hc, has_app (ys ++ [x]), has_cons, has_nil, Bool.or_false, Bool.true_and]; rfl
      · refine .inr (.inl ⟨(y, (i : Int), (j : Int), at_), ?_, (y, (i : Int), (j : Int), at_), rfl, hcn, ?_, ?_⟩)
        · unfold swB
          simp only [decide_eq_false hat, cond_false]
        · intro x hx; have := hup x hx; omega
        · intro v
          rw [hhas]
          have : at_ = top + 1 := by omega
          rw [this])
    (((top) : Int) - 0 + 1).toNat.succ (([] : List Span), 0, 0, 0) ⟨0, 0, rfl, rfl, Nat.zero_le _, Nat.zero_le _, by simp, by simp, by simp, by simp only; omega, trivial, by simp, fun v => by
      rw [has_nil, decide_eq_false (by simp only; omega)]; rfl⟩ (by simp only; omega)
  rw [ho]
  obtain ⟨⟨y, i, j, at_⟩, rfl, hcn, hup, hh⟩ := hq
  refine ⟨y, rfl, ⟨ht0, ht1, hcn, fun x hx => by have := hup x hx; omega⟩, fun v => ?_⟩
  rw [hh]
  congr 1
  rw [decide_eq_decide]; omega
theorem impl_sweep_both {a b : List Span} {top : Int} (ha : Set0 top a) (hb : Set0 top b) : impl_sweepSpans__impl_inBoth a b top = some (meetL a b) := by
  rw [sweep_both]
  obtain ⟨out, e, ho, hh⟩ := sweep_is (keep := impl_inBoth) (kp := fun p q => p && q) (fun p q => by cases p <;> rfl) ha hb
  rw [e, ho.ext (ha.meet hb) fun v => by
    rw [hh, has_meetL]
    cases h : has a v with
    | false => simp
    | true => have := ha.bound h; rw [decide_eq_true this]; simp]
theorem impl_meet {a b : List Span} {top : Int} (ha : Set0 top a) (hb : Set0 top b) : impl_meetSpans a b top = some (if (meetL a b).length ≤ 40 then (meetL a b, true) else ([], false)) := by
  unfold impl_meetSpans
  rw [impl_sweep_both ha hb, Option.bind_some]
  unfold impl_limitSpans
  by_cases h : (meetL a b).length ≤ 40
  · rw [if_pos h, lt_false (by omega)]; rfl
  · rw [if_neg h, lt_true (by omega)]; rfl
end Go.PF.F

/- Plain laws: boxes side by side; cutting, being within, being the same. -/
namespace Go.PF.F
open Go Go.PF

/-- Set number k of a box. -/
def sd (s : List (List Span)) (k : Nat) : List Span := s.getD k []
/-- Four sets in their only form. -/
def B4 (s : List (List Span)) : Prop := s.length = 4 ∧ ∀ k, k < 4 → Set0 (topOf k) (sd s k)
/-- None of them has too many ranges. -/
def Few (s : List (List Span)) : Prop := ∀ k, k < 4 → (sd s k).length ≤ 40
theorem sd_idx {s : List (List Span)} (h : s.length = 4) {k : Nat} (hk : k < 4) : idx s (k : Int) = some (sd s k) := by
  rw [idx_nat, sd, List.getD_eq_getElem?_getD, List.getElem?_eq_getElem (by omega)]; rfl
theorem sd_get {s : List (List Span)} (h : s.length = 4) {k : Nat} (hk : k < 4) : s[k]? = some (sd s k) := by
  rw [← idx_nat]; exact sd_idx h hk
theorem ext4 {s t : List (List Span)} (hs : s.length = 4) (ht : t.length = 4) (h : ∀ k, k < 4 → sd s k = sd t k) : s = t := by
  apply List.ext_getElem? 
  intro k
  rcases Nat.lt_or_ge k 4 with hk | hk
  · rw [sd_get hs hk, sd_get ht hk, h k hk]
  · rw [List.getElem?_eq_none (by omega), List.getElem?_eq_none (by omega)]
/-- The four sets that f gives. -/
def mk4 (f : Nat → List Span) : List (List Span) := (List.range 4).map f
theorem mk4_len (f : Nat → List Span) : (mk4 f).length = 4 := by simp [mk4]
theorem sd_mk4 (f : Nat → List Span) {k : Nat} (hk : k < 4) : sd (mk4 f) k = f k := by
  unfold sd mk4
  rw [List.getD_eq_getElem?_getD, List.getElem?_map, List.getElem?_range hk]; rfl
theorem sd_set {s : List (List Span)} (h : s.length = 4) {k : Nat} (hk : k < 4) (x : List Span) (j : Nat) : sd (s.set k x) j = if j = k then x else sd s j := by
  unfold sd
  rw [List.getD_eq_getElem?_getD, List.getD_eq_getElem?_getD, List.getElem?_set]
  by_cases hj : k = j
  · subst hj
    rw [if_pos rfl, if_pos (by omega), if_pos rfl]; rfl
  · rw [if_neg hj, if_neg (fun e => hj e.symm)]
def emptyS (s : List (List Span)) : Prop := ∃ k, k < 4 ∧ sd s k = []
theorem not_emptyS {s : List (List Span)} (h : ¬ emptyS s) {k : Nat} (hk : k < 4) : sd s k ≠ [] := fun e => h ⟨k, hk, e⟩
def meetS (a b : List (List Span)) : List (List Span) := mk4 fun k => meetL (sd a k) (sd b k)
def lessK (a b : List (List Span)) (k : Nat) : List Span := lessL (topOf k) (sd a k) (sd b k)
theorem B4.meet {a b : List (List Span)} (ha : B4 a) (hb : B4 b) : B4 (meetS a b) := ⟨mk4_len _, fun k hk => by unfold meetS; rw [sd_mk4 _ hk]; exact (ha.2 k hk).meet (hb.2 k hk)⟩
theorem B4.len {a : List (List Span)} (ha : B4 a) {k : Nat} (hk : k < 4) : (sd a k).length ≤ 32768 := (ha.2 k hk).len
theorem B4.ok {b : Box} (h : B4 b.Sides) : OkBox b := by
  refine ⟨by rw [h.1]; decide, fun x hx => ?_⟩
  obtain ⟨i, hi, rfl⟩ := List.getElem_of_mem hx
  have h4 : i < 4 := by have := h.1; omega
  have := sd_get h.1 h4
  rw [List.getElem?_eq_getElem hi] at this
  rw [Option.some.inj this]
  exact Nat.le_trans (h.len h4) (by decide)
theorem B4.okm {b : List (List Span)} (h : B4 b) : ∀ x ∈ b, x.length ≤ 32768 := by
  intro x hx
  obtain ⟨i, hi, rfl⟩ := List.getElem_of_mem hx
  have h4 : i < 4 := by have := h.1; omega
  have := sd_get h.1 h4
  rw [List.getElem?_eq_getElem hi] at this
  rw [Option.some.inj this]
  exact h.len h4
theorem spec_rows {s : List (List Span)} (h : s.length ≤ 4000000000) (hs : ∀ x ∈ s, x.length ≤ 4294967296) : spec_l1OwnRowsSpan s = some s := by
  unfold spec_l1OwnRowsSpan
  have := loop_brk (body := spec_l1OwnRowsSpan_L0 s) s.length (fun k => (s.take k, (k : Int))) (s, (s.length : Int)) (fun k hk => by
      unfold spec_l1OwnRowsSpan_L0
      have hx : s[k]? = some s[k] := List.getElem?_eq_getElem hk
      simp only [lt_true (show (k : Int) < (s.length : Int) by omega), cond_true, idx_nat, hx, Option.bind_some, app_nil (hs _ (List.getElem_mem hk)), app_ok (show (s.take k).length + [s[k]].length ≤ 4294967296 by simp; omega), W_succ (show k < 9223372036854775807 by omega)]
      rw [take_snoc hx])
    (by
      unfold spec_l1OwnRowsSpan_L0
      simp only [lt_false (Int.le_refl _), cond_false, List.take_of_length_le (Nat.le_refl _)])
    (fuel := ((((s.length : Int)) : Int) - 0).toNat.succ) (by omega)
  simp only [List.take_zero, Int.natCast_zero] at this
  rw [this]; rfl
theorem B4.rows {s : List (List Span)} (h : B4 s) : spec_l1OwnRowsSpan s = some s := spec_rows (by rw [h.1]; decide) (fun x hx => Nat.le_trans (h.okm x hx) (by decide))
/-! Cutting. -/
/-! Being within. -/
def Within (a b : List (List Span)) : Prop := emptyS a ∨ ∀ k, k < 4 → lessK a b k = []
theorem less_nil_iff {a b : List (List Span)} (ha : B4 a) (hb : B4 b) {k : Nat} (hk : k < 4) : lessK a b k = [] ↔ ∀ v, has (sd a k) v = true → has (sd b k) v = true := by
  unfold lessK
  rw [((ha.2 k hk).less (hb.2 k hk)).empty_iff]
  constructor
  · intro h v hv
    have := h v
    rw [has_less (ha.2 k hk) (hb.2 k hk), hv] at this
    simpa using this
  · intro h v
    rw [has_less (ha.2 k hk) (hb.2 k hk)]
    cases hv : has (sd a k) v with
    | false => rfl
    | true => rw [h v hv]; rfl
theorem some_has {top : Int} {xs : List Span} (h : Set0 top xs) (hn : xs ≠ []) : ∃ v, has xs v = true := by
  rcases Classical.em (∃ v, has xs v = true) with h1 | h1
  · exact h1
  · exact absurd (h.empty_iff.2 fun v => by rw [Bool.eq_false_iff]; exact fun hv => h1 ⟨v, hv⟩) hn
/-! Being the same. -/
open Classical in
noncomputable def SameS (a b : List (List Span)) : Prop := if emptyS a then emptyS b else ¬ emptyS b ∧ a = b
theorem same_iff {a b : List (List Span)} (ha : B4 a) (hb : B4 b) : (Within a b ∧ Within b a) ↔ SameS a b := by
  have nowith : ∀ {a b : List (List Span)}, B4 a → B4 b → emptyS a → ¬ emptyS b → ¬ Within b a := by
    intro a b ha hb he hn h
    rcases h with h | h
    · exact hn h
    · obtain ⟨k, hk, e⟩ := he
      obtain ⟨v, hv⟩ := some_has (hb.2 k hk) (not_emptyS hn hk)
      have := (less_nil_iff hb ha hk).1 (h k hk) v hv
      rw [e] at this; cases this
  unfold SameS
  split
  · rename_i he
    constructor
    · rintro ⟨_, h⟩
      rcases Classical.em (emptyS b) with hb' | hb'
      · exact hb'
      · exact absurd h (nowith ha hb he hb')
    · intro h; exact ⟨.inl he, .inl h⟩
  · rename_i he
    constructor
    · rintro ⟨h1, h2⟩
      rcases Classical.em (emptyS b) with hb' | hb'
      · exact absurd h1 (nowith hb ha hb' he)
      · refine ⟨hb', ext4 ha.1 hb.1 fun k hk => (ha.2 k hk).ext (hb.2 k hk) fun v => ?_⟩
        have h1 := (less_nil_iff ha hb hk).1 (h1.resolve_left he k hk) v
        have h2 := (less_nil_iff hb ha hk).1 (h2.resolve_left hb' k hk) v
        rw [Bool.eq_iff_iff]; exact ⟨h1, h2⟩
    · rintro ⟨_, rfl⟩
      have : Within a a := .inr fun k hk => (less_nil_iff ha ha hk).2 fun v hv => hv
      exact ⟨this, this⟩
/-! The laws. -/
/-! Packets in regions. -/
end Go.PF.F

/- Plain laws: sets from ranges, boxes from tests. -/
namespace Go.PF.F
open Go Go.PF

/-! Adding a range to a set. -/
def addL (s : Span) : List Span → List Span
  | [] => [s]
  | x :: xs => if x.Hi + 1 < s.Lo then x :: addL s xs else if s.Hi + 1 < x.Lo then s :: x :: xs else addL ⟨imin s.Lo x.Lo, imax s.Hi x.Hi⟩ xs
theorem addL_cn : ∀ {xs : List Span} {lo : Int} {s : Span}, Cn lo xs → lo ≤ s.Lo → s.Lo ≤ s.Hi → Cn lo (addL s xs)
  | [], lo, s, _, h0, h1 => ⟨h0, h1, trivial⟩
  | x :: xs, lo, s, h, h0, h1 => by
    unfold addL
    split
    · exact ⟨h.1, h.2.1, addL_cn h.2.2 (by omega) h1⟩
    · split
      · exact ⟨h0, h1, by show s.Hi + 2 ≤ x.Lo; omega, h.2⟩
      · have h2 := h.1
        have h3 := h.2.1
        refine addL_cn (cn_mono h.2.2 (by omega)) (le_imin.2 ⟨h0, h.1⟩) ?_
        show imin s.Lo x.Lo ≤ imax s.Hi x.Hi
        have a : imin s.Lo x.Lo ≤ s.Lo := imin_le.2 (.inl (Int.le_refl _))
        have b : s.Hi ≤ imax s.Hi x.Hi := le_imax.2 (.inl (Int.le_refl _))
        omega
theorem addL_up {top : Int} : ∀ {xs : List Span} {s : Span}, Up top xs → s.Hi ≤ top → Up top (addL s xs)
  | [], s, _, h => fun z hz => by rw [List.mem_singleton.1 hz]; exact h
  | x :: xs, s, hu, h => by
    unfold addL
    have hx := hu x (by simp)
    have ht : Up top xs := fun z hz => hu z (by simp [hz])
    split
    · intro z hz
      rcases List.mem_cons.1 hz with rfl | hz
      · exact hx
      · exact addL_up ht h z hz
    · split
      · intro z hz
        rcases List.mem_cons.1 hz with rfl | hz
        · exact h
        · exact hu z hz
      · exact addL_up ht (imax_le.2 ⟨h, hx⟩)
theorem Set0.add {top : Int} {xs : List Span} {s : Span} (h : Set0 top xs) (h0 : 0 ≤ s.Lo) (h1 : s.Lo ≤ s.Hi) (h2 : s.Hi ≤ top) : Set0 top (addL s xs) := ⟨h.t0, h.t1, addL_cn h.cn h0 h1, addL_up h.up h2⟩
/-! All packets. -/
def fullS : List (List Span) := mk4 fun k => [⟨0, topOf k⟩]
theorem top_pos {k : Nat} (hk : k < 4) : 0 ≤ topOf k ∧ topOf k ≤ 65535 := by
  match k, hk with
  | 0, _ => decide
  | 1, _ => decide
  | 2, _ => decide
  | 3, _ => decide
theorem full_B4 : B4 fullS := ⟨mk4_len _, fun k hk => by
  unfold fullS
  rw [sd_mk4 _ hk]
  have := top_pos hk
  exact Set0.one (Int.le_refl _) this.1 (Int.le_refl _) this.2⟩
theorem spec_all : spec_BoxAll = some ⟨fullS⟩ := rfl
theorem impl_all : impl_allSides = some fullS := rfl
theorem impl_box4 {s : List (List Span)} (h : s.length = 4) (hs : ∀ x ∈ s, x.length ≤ 32768) : impl_sides_box s = some ⟨s⟩ := by
  obtain ⟨a, b, c, d, rfl⟩ := four h
  have ha := hs a (by simp)
  have hb := hs b (by simp)
  have hc := hs c (by simp)
  have hd := hs d (by simp)
  unfold impl_sides_box
  rw [show makeF ([] : List Span) 4 = some [[], [], [], []] from rfl, Option.bind_some]
  have := loop_brk (body := impl_sides_box_L0 [a, b, c, d]) 4 (fun k => ((k : Int), [a, b, c, d].take k ++ List.replicate (4 - k) [])) (4, [a, b, c, d]) (fun k hk => by
      unfold impl_sides_box_L0
      match k, hk with
      | 0, _ => simp only [show idx [a, b, c, d] ((0 : Nat) : Int) = some a from rfl, Option.bind_some, app_nil (show a.length ≤ 4294967296 by omega)]; rfl
      | 1, _ => simp only [show idx [a, b, c, d] ((1 : Nat) : Int) = some b from rfl, Option.bind_some, app_nil (show b.length ≤ 4294967296 by omega)]; rfl
      | 2, _ => simp only [show idx [a, b, c, d] ((2 : Nat) : Int) = some c from rfl, Option.bind_some, app_nil (show c.length ≤ 4294967296 by omega)]; rfl
      | 3, _ => simp only [show idx [a, b, c, d] ((3 : Nat) : Int) = some d from rfl, Option.bind_some, app_nil (show d.length ≤ 4294967296 by omega)]; rfl)
    rfl (fuel := (((4) : Int) - 0).toNat.succ) (by decide)
  rw [show ((0 : Int), ([[], [], [], []] : List (List Span))) = (((0 : Nat) : Int), [a, b, c, d].take 0 ++ List.replicate (4 - 0) []) from rfl, this]; rfl
/-! Tests. -/
def testL (t : Test) : List Span := if t.Not then otherL (topOf t.Field.toNat) 0 [⟨t.Lo, t.Hi⟩] else [⟨t.Lo, t.Hi⟩]
theorem TV.field {t : Test} (h : TV t) : t.Field = ((t.Field.toNat : Nat) : Int) ∧ t.Field.toNat < 4 := by have := h.1; omega
theorem TV.one {t : Test} (h : TV t) : Set0 (topOf t.Field.toNat) [⟨t.Lo, t.Hi⟩] := Set0.one h.2.1.1 h.2.1.2 h.2.2 (top_pos h.field.2).2
theorem TV.set {t : Test} (h : TV t) : Set0 (topOf t.Field.toNat) (testL t) := by
  unfold testL
  split
  · exact h.one.other
  · exact h.one
theorem testL_len (t : Test) : (testL t).length ≤ 2 := by
  unfold testL
  split
  · exact otherL_len _ _ _
  · simp
theorem spec_testSpans {t : Test} (h : TV t) : spec_TestSpans t = some (testL t) := by
  unfold spec_TestSpans
  obtain ⟨r, e, hr⟩ := spec_test t
  rw [e, Option.bind_some, hr.2 h, cond_true]
  unfold testL
  cases hn : t.Not with
  | true =>
    rw [cond_true, h.field.1, spec_top, Option.bind_some]
    simp only [Int.toNat_natCast]
    rw [spec_other h.one]; rfl
  | false => rfl
def testsS (ts : List Test) : List (List Span) := ts.foldl (fun s t => s.set t.Field.toNat (meetL (sd s t.Field.toNat) (testL t))) fullS
theorem B4.set {s : List (List Span)} (h : B4 s) {k : Nat} (hk : k < 4) {x : List Span} (hx : Set0 (topOf k) x) : B4 (s.set k x) :=
  ⟨by rw [List.length_set]; exact h.1, fun j hj => by
    rw [sd_set h.1 hk]
    split
    · rename_i e; subst e; exact hx
    · exact h.2 j hj⟩
theorem testsS_ok : ∀ (ts : List Test) (s : List (List Span)), (∀ t ∈ ts, TV t) → B4 s → B4 (ts.foldl (fun s t => s.set t.Field.toNat (meetL (sd s t.Field.toNat) (testL t))) s)
  | [], _, _, h => h
  | t :: ts, s, ht, h => by
    have h1 := ht t (by simp)
    exact testsS_ok ts _ (fun z hz => ht z (by simp [hz])) (h.set h1.field.2 ((h.2 _ h1.field.2).meet h1.set))
theorem spec_testsBox {ts : List Test} (h : TsV ts) : spec_TestsBox ts = some ⟨testsS ts⟩ := by
  have hl : ts.length ≤ 6 := by have := h.2; omega
  unfold spec_TestsBox
  obtain ⟨r, e, hr⟩ := spec_tests (xs := ts) (by omega)
  rw [e, Option.bind_some, hr.2 h, cond_true, spec_all, Option.bind_some]
  have := loop_each (body := spec_TestsBox_L0 ts) ts (fun s k => (k, s)) (fun s t => s.set t.Field.toNat (meetL (sd s t.Field.toNat) (testL t))) fullS (fun s => ((ts.length : Int), s)) (fuel := ((((ts.length : Int)) : Int) - 0).toNat.succ) (by omega)
    (fun k t hk ht => by
      have hv := h.1 t (List.mem_of_getElem? ht)
      have hs := testsS_ok (ts.take k) fullS (fun z hz => h.1 z (List.mem_of_mem_take hz)) full_B4
      generalize (ts.take k).foldl (fun s t => s.set t.Field.toNat (meetL (sd s t.Field.toNat) (testL t))) fullS = s at hs
      have hi := sd_idx hs.1 hv.field.2
      rw [← hv.field.1] at hi
      have h1 := hs.len hv.field.2
      have h2 := testL_len t
      unfold spec_TestsBox_L0
      simp only [lt_true (show (k : Int) < (ts.length : Int) by omega), cond_true, idx_nat, ht, Option.bind_some, hi, spec_testSpans hv, spec_meet (show (sd s t.Field.toNat).length ≤ 40000 by omega) (show (testL t).length ≤ 40000 by omega), W_succ (show k < 9223372036854775807 by omega)])
    (by
      unfold spec_TestsBox_L0
      simp only [lt_false (Int.le_refl _), cond_false])
  rw [this]; rfl
/-! How many ranges a meeting has. -/
theorem meet1_len_app (x : Span) (b c : List Span) : (meet1 x (b ++ c)).length = (meet1 x b).length + (meet1 x c).length := by simp [meet1]
theorem meetL_len_cons (a : List Span) (y : Span) (b : List Span) : (meetL a (y :: b)).length = (meetL a [y]).length + (meetL a b).length := by
  induction a with
  | nil => rfl
  | cons x t ih =>
    rw [show meetL (x :: t) (y :: b) = meet1 x (y :: b) ++ meetL t (y :: b) from by simp [meetL], show meetL (x :: t) [y] = meet1 x [y] ++ meetL t [y] from by simp [meetL], show meetL (x :: t) b = meet1 x b ++ meetL t b from by simp [meetL]]
    have := meet1_len_app x [y] b
    simp only [List.length_append, ih] at this ⊢
    rw [show y :: b = [y] ++ b from rfl, this]; omega
theorem nil_of_has {lo : Int} {xs : List Span} (h : Cn lo xs) (hv : ∀ v, has xs v = false) : xs = [] := by
  cases xs with
  | nil => rfl
  | cons x t =>
    have := hv x.Lo
    rw [has_cons, inS_iff.2 ⟨Int.le_refl _, h.2.1⟩] at this
    simp at this
theorem meet_few : ∀ (n : Nat) (a b : List Span) (lo lo' : Int), a.length + b.length ≤ n → Cn lo a → Cn lo' b → (meetL a b).length ≤ a.length + b.length
  | 0, a, b, _, _, hn, _, _ => by
    obtain rfl : a = [] := List.eq_nil_of_length_eq_zero (by omega)
    simp [meetL]
  | n + 1, [], b, _, _, _, _, _ => by simp [meetL]
  | n + 1, x :: a, [], _, _, _, _, _ => by
    have : meetL (x :: a) [] = [] := by simp [meetL, meet1]
    rw [this]; simp
  | n + 1, x :: a, y :: b, lo, lo', hn, ha, hb => by
    by_cases h : y.Hi ≤ x.Hi + 1
    · have h0 : meetL a [y] = [] := by
        refine nil_of_has (cn_meetL (lo' := y.Lo) (b := [y]) ⟨Int.le_refl _, hb.2.1, trivial⟩ ha.2.2) fun v => ?_
        rw [has_meetL, Bool.eq_false_iff]
        intro hh
        rw [Bool.and_eq_true] at hh
        have h1 := cn_has ha.2.2 hh.1
        have h2 := hh.2
        rw [has_cons, has_nil, Bool.or_false] at h2
        have := inS_iff.1 h2
        omega
      have h1 : (meetL (x :: a) [y]).length ≤ 1 := by
        rw [show meetL (x :: a) [y] = meet1 x [y] ++ meetL a [y] from by simp [meetL], h0]
        have := meet1_len x [y]
        simpa using this
      have ih := meet_few n (x :: a) b lo (y.Hi + 2) (by simp only [List.length_cons] at hn ⊢; omega) ha hb.2.2
      rw [meetL_len_cons]
      simp only [List.length_cons] at ih ⊢
      omega
    · have h0 : meet1 x b = [] := by
        refine nil_of_has (cn_meet1 x hb.2.2 (.inr (Int.le_refl _))) fun v => ?_
        rw [has_meet1, Bool.eq_false_iff]
        intro hh
        rw [Bool.and_eq_true] at hh
        have h1 := cn_has hb.2.2 hh.2
        have h2 := inS_iff.1 hh.1
        omega
      have h1 : (meet1 x (y :: b)).length ≤ 1 := by
        have e := meet1_len_app x [y] b
        have := meet1_len x [y]
        rw [h0] at e
        simp only [List.length_nil, Nat.add_zero, List.cons_append, List.nil_append] at e
        rw [e]; simpa using this
      have ih := meet_few n a (y :: b) (x.Hi + 2) lo' (by simp only [List.length_cons] at hn ⊢; omega) ha.2.2 hb
      rw [show meetL (x :: a) (y :: b) = meet1 x (y :: b) ++ meetL a (y :: b) from by simp [meetL], List.length_append]
      simp only [List.length_cons] at ih ⊢
      omega
theorem Set0.meet_few {top top' : Int} {a b : List Span} (ha : Set0 top a) (hb : Set0 top' b) : (meetL a b).length ≤ a.length + b.length := F.meet_few _ a b 0 0 (Nat.le_refl _) ha.cn hb.cn
theorem testsS_len : ∀ (ts : List Test) (s : List (List Span)), (∀ t ∈ ts, TV t) → B4 s → ∀ (m : Nat), (∀ k, k < 4 → (sd s k).length ≤ m) → ∀ k, k < 4 → (sd (ts.foldl (fun s t => s.set t.Field.toNat (meetL (sd s t.Field.toNat) (testL t))) s) k).length ≤ m + 2 * ts.length
  | [], s, _, _, m, hm, k, hk => by have := hm k hk; simpa using this
  | t :: ts, s, ht, h, m, hm, k, hk => by
    have h1 := ht t (by simp)
    have ih := testsS_len ts _ (fun z hz => ht z (by simp [hz])) (h.set h1.field.2 ((h.2 _ h1.field.2).meet h1.set)) (m + 2) (fun j hj => by
      rw [sd_set h.1 h1.field.2]
      split
      · have := (h.2 _ h1.field.2).meet_few h1.set
        have := hm _ h1.field.2
        have := testL_len t
        omega
      · have := hm j hj; omega) k hk
    rw [List.foldl_cons, List.length_cons]
    omega
theorem testsS_B4 {ts : List Test} (h : ∀ t ∈ ts, TV t) : B4 (testsS ts) := testsS_ok ts fullS h full_B4
theorem testsS_few {ts : List Test} (h : TsV ts) : Few (testsS ts) := fun k hk => by
  have := testsS_len ts fullS h.1 full_B4 1 (fun j hj => by unfold fullS; rw [sd_mk4 _ hj]; simp) k hk
  have h2 := h.2
  show (sd (testsS ts) k).length ≤ 40
  unfold testsS
  omega
end Go.PF.F
