/- Plain laws: sets of numbers. -/
import Derived.Test.YtbnndochnkkllaaDoorPlG
namespace Go.PF.F
open Go Go.PF

/-- A set in its only form, from lo on. -/
def Cn (lo : Int) : List Span → Prop
  | [] => True
  | x :: xs => lo ≤ x.Lo ∧ x.Lo ≤ x.Hi ∧ Cn (x.Hi + 2) xs
def inS (x : Span) (v : Int) : Bool := decide (x.Lo ≤ v ∧ v ≤ x.Hi)
def has (xs : List Span) (v : Int) : Bool := xs.any fun x => inS x v
/-- No number of it is above top. -/
def Up (top : Int) (xs : List Span) : Prop := ∀ x ∈ xs, x.Hi ≤ top
theorem has_nil (v : Int) : has [] v = false := rfl
theorem has_cons (x : Span) (xs : List Span) (v : Int) : has (x :: xs) v = (inS x v || has xs v) := rfl
theorem has_app (xs ys : List Span) (v : Int) : has (xs ++ ys) v = (has xs v || has ys v) := by simp [has]
theorem has_iff {xs : List Span} {v : Int} : has xs v = true ↔ SH xs v := by simp [has, SH, inS]
theorem inS_iff {x : Span} {v : Int} : inS x v = true ↔ x.Lo ≤ v ∧ v ≤ x.Hi := by simp [inS]
theorem cn_mono {lo lo' : Int} {xs : List Span} (h : Cn lo xs) (hl : lo' ≤ lo) : Cn lo' xs := by
  cases xs with
  | nil => trivial
  | cons x xs => exact ⟨Int.le_trans hl h.1, h.2⟩
theorem cn_lo : ∀ {lo : Int} {xs : List Span}, Cn lo xs → ∀ x ∈ xs, lo ≤ x.Lo ∧ x.Lo ≤ x.Hi
  | lo, x :: xs, h, y, hy => by
    rcases List.mem_cons.1 hy with rfl | hy
    · exact ⟨h.1, h.2.1⟩
    · have h0 := h.1
      have h1 := h.2.1
      have := cn_lo h.2.2 y hy
      omega
theorem cn_has {lo v : Int} {xs : List Span} (h : Cn lo xs) (hv : has xs v = true) : lo ≤ v := by
  obtain ⟨x, hx, h1, h2⟩ := has_iff.1 hv
  have := cn_lo h x hx
  omega
theorem cn_ext : ∀ {xs ys : List Span} {lo lo' : Int}, Cn lo xs → Cn lo' ys → (∀ v, has xs v = has ys v) → xs = ys
  | [], [], _, _, _, _, _ => rfl
  | [], y :: ys, _, _, _, h', h => by
    have := h y.Lo
    rw [has_nil, has_cons, inS_iff.2 ⟨Int.le_refl _, h'.2.1⟩] at this
    simp at this
  | x :: xs, [], _, _, h', _, h => by
    have := h x.Lo
    rw [has_nil, has_cons, inS_iff.2 ⟨Int.le_refl _, h'.2.1⟩] at this
    simp at this
  | x :: xs, y :: ys, lo, lo', hx, hy, h => by
    obtain ⟨hx0, hx1, hx2⟩ := hx
    obtain ⟨hy0, hy1, hy2⟩ := hy
    have cnx : Cn x.Lo (x :: xs) := ⟨Int.le_refl _, hx1, hx2⟩
    have cny : Cn y.Lo (y :: ys) := ⟨Int.le_refl _, hy1, hy2⟩
    have ax : has (x :: xs) x.Lo = true := by rw [has_cons, inS_iff.2 ⟨Int.le_refl _, hx1⟩]; rfl
    have ay : has (y :: ys) y.Lo = true := by rw [has_cons, inS_iff.2 ⟨Int.le_refl _, hy1⟩]; rfl
    have e1 : x.Lo = y.Lo := by
      have h1 := cn_has cny ((h _).symm.trans ax)
      have h2 := cn_has cnx ((h _).trans ay)
      omega
    have noteq : ∀ {z : Span} {zs : List Span} {v : Int}, Cn (z.Hi + 2) zs → v = z.Hi + 1 → has (z :: zs) v = false := by
      intro z zs v hz hv
      rw [Bool.eq_false_iff]
      intro hh
      rw [has_cons, Bool.or_eq_true] at hh
      rcases hh with hh | hh
      · have := inS_iff.1 hh; omega
      · have := cn_has hz hh; omega
    have e2 : x.Hi = y.Hi := by
      rcases Int.lt_trichotomy x.Hi y.Hi with hl | he | hl
      · exfalso
        have h1 := noteq hx2 (v := x.Hi + 1) rfl
        rw [h, has_cons, inS_iff.2 ⟨by omega, by omega⟩] at h1
        simp at h1
      · exact he
      · exfalso
        have h1 := noteq hy2 (v := y.Hi + 1) rfl
        rw [← h, has_cons, inS_iff.2 ⟨by omega, by omega⟩] at h1
        simp at h1
    have e : x = y := by
      obtain ⟨a, b⟩ := x
      obtain ⟨c, d⟩ := y
      simp only at e1 e2
      rw [e1, e2]
    subst e
    rw [cn_ext hx2 hy2 fun v => by
      by_cases hv : x.Hi + 2 ≤ v
      · have := h v
        rw [has_cons, has_cons] at this
        have hn : inS x v = false := by rw [Bool.eq_false_iff]; intro hh; have := inS_iff.1 hh; omega
        simpa [hn] using this
      · have h1 : has xs v = false := by rw [Bool.eq_false_iff]; intro hh; exact hv (cn_has hx2 hh)
        have h2 : has ys v = false := by rw [Bool.eq_false_iff]; intro hh; exact hv (cn_has hy2 hh)
        rw [h1, h2]]
theorem cn_app {m : Int} : ∀ {xs ys : List Span} {lo : Int}, Cn lo xs → (∀ x ∈ xs, x.Hi + 2 ≤ m) → lo ≤ m → Cn m ys → Cn lo (xs ++ ys)
  | [], ys, lo, _, _, hl, h => cn_mono h hl
  | x :: xs, ys, lo, hx, hm, hl, h => ⟨hx.1, hx.2.1, cn_app hx.2.2 (fun z hz => hm z (by simp [hz])) (hm x (by simp)) h⟩
theorem cn_left : ∀ {xs ys : List Span} {lo : Int}, Cn lo (xs ++ ys) → Cn lo xs
  | [], _, _, _ => trivial
  | _ :: _, _, _, h => ⟨h.1, h.2.1, cn_left h.2.2⟩
theorem cn_right : ∀ {xs ys : List Span} {lo : Int}, Cn lo (xs ++ ys) → Cn lo ys
  | [], _, _, h => h
  | x :: xs, _, _, h => cn_mono (cn_right h.2.2) (by have := h.1; have := h.2.1; omega)
theorem cn_gap : ∀ {xs ys : List Span} {lo : Int}, Cn lo (xs ++ ys) → ∀ x ∈ xs, ∀ y ∈ ys, x.Hi + 2 ≤ y.Lo
  | x :: xs, ys, lo, h, z, hz, y, hy => by
    rcases List.mem_cons.1 hz with rfl | hz
    · exact (cn_lo h.2.2 y (List.mem_append_right _ hy)).1
    · exact cn_gap h.2.2 z hz y hy
theorem cn_len : ∀ {xs : List Span} {lo top : Int}, Cn lo xs → Up top xs → lo ≤ top + 2 → lo + 2 * (xs.length : Int) ≤ top + 2
  | [], lo, top, _, _, h => by simpa using h
  | x :: xs, lo, top, h, hu, hl => by
    have h1 := hu x (by simp)
    have h0 := h.1
    have h2 := h.2.1
    have := cn_len h.2.2 (fun y hy => hu y (by simp [hy])) (by omega)
    simp only [List.length_cons, Int.natCast_add, Int.natCast_one] at this ⊢
    omega
theorem cn_len' {xs : List Span} {top : Int} (h : Cn 0 xs) (hu : Up top xs) (h0 : 0 ≤ top) (h1 : top ≤ 65535) : xs.length ≤ 32768 := by
  have := cn_len h hu (by omega); omega
theorem has_up {xs : List Span} {top v : Int} (hu : Up top xs) (h : has xs v = true) : v ≤ top := by
  obtain ⟨x, hx, h1, h2⟩ := has_iff.1 h
  have := hu x hx
  omega
/-! The program's validity is this form. -/
theorem cn_of_SV {xs : List Span} {top : Int} (h : SV xs top xs.length) : Cn 0 xs ∧ Up top xs := by
  refine ⟨?_, fun x hx => ?_⟩
  · have key : ∀ j k, k + j = xs.length → ∀ lo, (k = 0 → lo = 0) → (∀ p, 0 < k → xs[k - 1]? = some p → lo = p.Hi + 2) → Cn lo (xs.drop k) := by
      intro j
      induction j with
      | zero => intro k hk lo _ _; rw [List.drop_eq_nil_iff.2 (by omega)]; trivial
      | succ j ih =>
        intro k hk lo h0 h1
        have hkl : k < xs.length := by omega
        rw [List.drop_eq_getElem_cons hkl]
        have hx := h k xs[k] hkl (List.getElem?_eq_getElem hkl)
        refine ⟨?_, hx.2.1, ih (k + 1) (by omega) _ (by omega) (fun p _ hp => ?_)⟩
        · rcases Nat.eq_zero_or_pos k with rfl | hk0
          · rw [h0 rfl]; exact hx.1
          · obtain ⟨p, hp⟩ : ∃ p, xs[k - 1]? = some p := ⟨_, List.getElem?_eq_getElem (by omega)⟩
            rw [h1 p hk0 hp]
            exact hx.2.2.2 p hk0 hp
        · simp only [Nat.add_sub_cancel] at hp
          rw [List.getElem?_eq_getElem hkl] at hp
          rw [Option.some.inj hp]
    simpa using key xs.length 0 (by omega) 0 (fun _ => rfl) (fun p hp => by omega)
  · obtain ⟨i, hi, rfl⟩ := List.getElem_of_mem hx
    exact (h i _ hi (List.getElem?_eq_getElem hi)).2.2.1
theorem SV_of_cn {xs : List Span} {top : Int} (h : Cn 0 xs) (hu : Up top xs) : SV xs top xs.length := by
  intro i x hi hx
  have hm := List.mem_of_getElem? hx
  have h1 := cn_lo h x hm
  refine ⟨h1.1, h1.2, hu x hm, fun p h0 hp => ?_⟩
  have hs : xs = xs.take i ++ xs.drop i := (List.take_append_drop i xs).symm
  rw [hs] at h
  refine cn_gap h p ?_ x ?_
  · refine List.mem_of_getElem? (i := i - 1) ?_
    rw [List.getElem?_take, if_pos (by omega)]; exact hp
  · refine List.mem_of_getElem? (i := 0) ?_
    rw [List.getElem?_drop]; simpa using hx
/-- A set of numbers up to top, in its only form. -/
structure Set0 (top : Int) (xs : List Span) : Prop where
  t0 : 0 ≤ top
  t1 : top ≤ 65535
  cn : Cn 0 xs
  up : Up top xs
theorem SVP_iff {xs : List Span} {top : Int} : SVP xs top ↔ Set0 top xs ∧ xs.length ≤ 40 :=
  ⟨fun h => have := cn_of_SV h.2.2; ⟨⟨h.1.1, h.1.2, this.1, this.2⟩, h.2.1⟩, fun h => ⟨⟨h.1.t0, h.1.t1⟩, h.2, SV_of_cn h.1.cn h.1.up⟩⟩
theorem Set0.len {top : Int} {xs : List Span} (h : Set0 top xs) : xs.length ≤ 32768 := cn_len' h.cn h.up h.t0 h.t1
theorem Set0.bound {top v : Int} {xs : List Span} (h : Set0 top xs) (hv : has xs v = true) : 0 ≤ v ∧ v ≤ top := ⟨cn_has h.cn hv, has_up h.up hv⟩
theorem Set0.mem {top : Int} {xs : List Span} (h : Set0 top xs) {x : Span} (hx : x ∈ xs) : 0 ≤ x.Lo ∧ x.Lo ≤ x.Hi ∧ x.Hi ≤ top :=
  have := cn_lo h.cn x hx; ⟨this.1, this.2, h.up x hx⟩
theorem Set0.nil {top : Int} (h0 : 0 ≤ top) (h1 : top ≤ 65535) : Set0 top [] := ⟨h0, h1, trivial, fun _ h => by cases h⟩
theorem Set0.one {top lo hi : Int} (h0 : 0 ≤ lo) (h1 : lo ≤ hi) (h2 : hi ≤ top) (h3 : top ≤ 65535) : Set0 top [⟨lo, hi⟩] :=
  ⟨by omega, h3, ⟨h0, h1, trivial⟩, fun x hx => by rw [List.mem_singleton.1 hx]; exact h2⟩
theorem Set0.ext {top top' : Int} {xs ys : List Span} (h : Set0 top xs) (k : Set0 top' ys) (e : ∀ v, has xs v = has ys v) : xs = ys := cn_ext h.cn k.cn e
theorem Set0.empty_iff {top : Int} {xs : List Span} (h : Set0 top xs) : xs = [] ↔ ∀ v, has xs v = false := by
  constructor
  · rintro rfl v; rfl
  · intro hv
    cases xs with
    | nil => rfl
    | cons x t =>
      have := hv x.Lo
      rw [has_cons, inS_iff.2 ⟨Int.le_refl _, h.cn.2.1⟩] at this
      simp at this

/-! Meetings. -/
def meet1 (x : Span) (b : List Span) : List Span := b.filterMap fun y => if imax x.Lo y.Lo ≤ imin x.Hi y.Hi then some ⟨imax x.Lo y.Lo, imin x.Hi y.Hi⟩ else none
def meetL (a b : List Span) : List Span := a.flatMap fun x => meet1 x b
theorem imax_le {a b c : Int} : imax a b ≤ c ↔ a ≤ c ∧ b ≤ c := by unfold imax; split <;> omega
theorem le_imax {a b c : Int} : c ≤ imax a b ↔ c ≤ a ∨ c ≤ b := by unfold imax; split <;> omega
theorem imin_le {a b c : Int} : imin a b ≤ c ↔ a ≤ c ∨ b ≤ c := by unfold imin; split <;> omega
theorem le_imin {a b c : Int} : c ≤ imin a b ↔ c ≤ a ∧ c ≤ b := by unfold imin; split <;> omega
theorem has_meet1 (x : Span) (b : List Span) (v : Int) : has (meet1 x b) v = (inS x v && has b v) := by
  rw [Bool.eq_iff_iff]
  simp only [Bool.and_eq_true, has_iff, SH, inS_iff, meet1, List.mem_filterMap]
  constructor
  · rintro ⟨z, ⟨y, hy, hz⟩, h1, h2⟩
    split at hz
    · obtain rfl := Option.some.inj hz
      simp only [imax_le, le_imin] at h1 h2
      exact ⟨⟨h1.1, h2.1⟩, y, hy, h1.2, h2.2⟩
    · cases hz
  · rintro ⟨⟨h1, h2⟩, y, hy, h3, h4⟩
    refine ⟨⟨imax x.Lo y.Lo, imin x.Hi y.Hi⟩, ⟨y, hy, if_pos ?_⟩, imax_le.2 ⟨h1, h3⟩, le_imin.2 ⟨h2, h4⟩⟩
    have := (imax_le (c := v)).2 ⟨h1, h3⟩
    have := (le_imin (c := v)).2 ⟨h2, h4⟩
    omega
theorem has_meetL (a b : List Span) (v : Int) : has (meetL a b) v = (has a v && has b v) := by
  induction a with
  | nil => rfl
  | cons x t ih =>
    rw [show meetL (x :: t) b = meet1 x b ++ meetL t b from by simp [meetL], has_app, ih, has_meet1, has_cons]
    cases inS x v <;> cases has t v <;> cases has b v <;> rfl
theorem meet1_hi {x : Span} {b : List Span} {z : Span} (h : z ∈ meet1 x b) : z.Hi ≤ x.Hi ∧ (∃ y ∈ b, z.Hi ≤ y.Hi) := by
  simp only [meet1, List.mem_filterMap] at h
  obtain ⟨y, hy, hz⟩ := h
  split at hz
  · obtain rfl := Option.some.inj hz
    exact ⟨imin_le.2 (.inl (Int.le_refl _)), y, hy, imin_le.2 (.inr (Int.le_refl _))⟩
  · cases hz
theorem cn_meet1 (x : Span) : ∀ {b : List Span} {lo m : Int}, Cn lo b → m ≤ x.Lo ∨ m ≤ lo → Cn m (meet1 x b)
  | [], _, _, _, _ => trivial
  | y :: b, lo, m, h, hm => by
    have hy0 := h.1
    have hy1 := h.2.1
    have key : meet1 x (y :: b) = (if imax x.Lo y.Lo ≤ imin x.Hi y.Hi then [⟨imax x.Lo y.Lo, imin x.Hi y.Hi⟩] else []) ++ meet1 x b := by
      unfold meet1
      rw [List.filterMap_cons]
      split <;> rename_i h1 <;> split at h1 <;> rename_i h2
      · cases h1
      · rw [if_neg h2]; rfl
      · obtain rfl := Option.some.inj h1; rw [if_pos h2]; rfl
      · cases h1
    rw [key]
    split
    · rename_i hle
      refine ⟨?_, hle, cn_meet1 x h.2.2 (.inr ?_)⟩
      · show m ≤ imax x.Lo y.Lo
        rw [le_imax]; omega
      · have : imin x.Hi y.Hi ≤ y.Hi := imin_le.2 (.inr (Int.le_refl _))
        show imin x.Hi y.Hi + 2 ≤ y.Hi + 2
        omega
    · exact cn_meet1 x h.2.2 (by rcases hm with hm | hm <;> omega)
theorem cn_meetL {b : List Span} {lo' : Int} (hb : Cn lo' b) : ∀ {a : List Span} {lo : Int}, Cn lo a → Cn lo (meetL a b)
  | [], _, _ => trivial
  | x :: a, lo, h => by
    rw [show meetL (x :: a) b = meet1 x b ++ meetL a b from by simp [meetL]]
    have h0 := h.1
    have h1 := h.2.1
    exact cn_app (m := x.Hi + 2) (cn_meet1 x hb (.inl h.1)) (fun z hz => by have := (meet1_hi hz).1; omega) (by omega) (cn_meetL hb h.2.2)
theorem up_meetL {a b : List Span} {top : Int} (ha : Up top a) : Up top (meetL a b) := by
  intro z hz
  simp only [meetL, List.mem_flatMap] at hz
  obtain ⟨x, hx, hz⟩ := hz
  have := (meet1_hi hz).1
  have := ha x hx
  omega
theorem Set0.meet {top top' : Int} {a b : List Span} (ha : Set0 top a) (hb : Set0 top' b) : Set0 top (meetL a b) := ⟨ha.t0, ha.t1, cn_meetL hb.cn ha.cn, up_meetL ha.up⟩
theorem meet1_len (x : Span) (b : List Span) : (meet1 x b).length ≤ b.length := List.length_filterMap_le ..
theorem meetL_len (a b : List Span) : (meetL a b).length ≤ a.length * b.length := by
  induction a with
  | nil => simp [meetL]
  | cons x t ih =>
    rw [show meetL (x :: t) b = meet1 x b ++ meetL t b from by simp [meetL], List.length_append, List.length_cons, Nat.add_mul]
    have := meet1_len x b
    omega
theorem meet1_snoc (x : Span) (ys : List Span) (y : Span) : meet1 x (ys ++ [y]) = meet1 x ys ++ meet1 x [y] := by simp [meet1]
theorem meetL_snoc (ys : List Span) (y : Span) (b : List Span) : meetL (ys ++ [y]) b = meetL ys b ++ meet1 y b := by simp [meetL]
theorem spec_meet {a b : List Span} (ha : a.length ≤ 40000) (hb : b.length ≤ 40000) : spec_l2Meet a b = some (meetL a b) := by
  have hab : a.length * b.length ≤ 40000 * 40000 := Nat.mul_le_mul ha hb
  have inner : ∀ (k : Nat) (x : Span) (acc : List Span), a[k]? = some x → acc.length ≤ 1700000000 → k < a.length →
      loopF (spec_l2Meet_L1 a b (k : Int)) (((b.length : Int)) - 0).toNat.succ (acc, 0) = some (.brk (acc ++ meet1 x b, (b.length : Int))) := by
    intro k x acc hx hacc hk
    have := loop_brk (body := spec_l2Meet_L1 a b (k : Int)) b.length (fun j => (acc ++ meet1 x (b.take j), (j : Int))) (acc ++ meet1 x b, (b.length : Int)) (fun j hj => by
      unfold spec_l2Meet_L1
      have hy : b[j]? = some b[j] := List.getElem?_eq_getElem hj
      simp only [lt_true (show (j : Int) < (b.length : Int) by omega), cond_true, idx_nat, hx, hy, Option.bind_some, W_succ (show j < 9223372036854775807 by omega)]
      rw [take_snoc hy, meet1_snoc, show meet1 x [b[j]] = if imax x.Lo b[j].Lo ≤ imin x.Hi b[j].Hi then [⟨imax x.Lo b[j].Lo, imin x.Hi b[j].Hi⟩] else [] from by simp only [meet1, List.filterMap_cons, List.filterMap_nil]; split <;> simp_all]
      have hl := meet1_len x (b.take j)
      have hl2 : (b.take j).length ≤ b.length := by rw [List.length_take]; omega
      by_cases hc : imax x.Lo b[j].Lo ≤ imin x.Hi b[j].Hi
      · rw [le_true hc, cond_true, app_ok (by simp; omega), if_pos hc, Option.bind_some, List.append_assoc]
      · rw [decide_eq_false hc, cond_false, if_neg hc, List.append_nil])
      (by
        unfold spec_l2Meet_L1
        simp only [lt_false (Int.le_refl _), cond_false, List.take_of_length_le (Nat.le_refl _)])
      (fuel := (((b.length : Int)) - 0).toNat.succ) (by omega)
    simpa [meet1] using this
  unfold spec_l2Meet
  have := loop_brk (body := spec_l2Meet_L0 a b) a.length (fun k => (meetL (a.take k) b, (k : Int))) (meetL a b, (a.length : Int)) (fun k hk => by
      unfold spec_l2Meet_L0
      have hx : a[k]? = some a[k] := List.getElem?_eq_getElem hk
      have hl := meetL_len (a.take k) b
      have hl2 : (a.take k).length * b.length ≤ 40000 * 40000 := Nat.mul_le_mul (by rw [List.length_take]; omega) hb
      simp only [lt_true (show (k : Int) < (a.length : Int) by omega), cond_true, inner k a[k] (meetL (a.take k) b) hx (by omega) hk, Option.bind_some, LR.on, W_succ (show k < 9223372036854775807 by omega)]
      rw [take_snoc hx, meetL_snoc])
    (by
      unfold spec_l2Meet_L0
      simp only [lt_false (Int.le_refl _), cond_false, List.take_of_length_le (Nat.le_refl _)])
    (fuel := (((a.length : Int)) - 0).toNat.succ) (by omega)
  simp only [List.take_zero] at this
  rw [show (meetL [] b, ((0 : Nat) : Int)) = (([] : List Span), (0 : Int)) from rfl] at this
  rw [this]; rfl

/-! What is not in a set. -/
def otherL (top : Int) : Int → List Span → List Span
  | at_, [] => if at_ ≤ top then [⟨at_, top⟩] else []
  | at_, x :: xs => (if at_ < x.Lo then [⟨at_, x.Lo - 1⟩] else []) ++ otherL top (x.Hi + 1) xs
theorem otherL_len (top : Int) : ∀ (at_ : Int) (xs : List Span), (otherL top at_ xs).length ≤ xs.length + 1
  | at_, [] => by unfold otherL; split <;> simp
  | at_, x :: xs => by
    unfold otherL
    have := otherL_len top (x.Hi + 1) xs
    split <;> simp <;> omega
theorem cn_other {top : Int} : ∀ {xs : List Span} {lo at_ : Int}, Cn lo xs → at_ ≤ lo → Cn at_ (otherL top at_ xs)
  | [], lo, at_, _, _ => by
    unfold otherL
    split
    · exact ⟨Int.le_refl _, by assumption, trivial⟩
    · trivial
  | x :: xs, lo, at_, h, hl => by
    unfold otherL
    have h0 := h.1
    have h1 := h.2.1
    have ih : Cn (x.Hi + 1) (otherL top (x.Hi + 1) xs) := cn_other h.2.2 (by omega)
    split
    · exact ⟨Int.le_refl _, by simp only; omega, cn_mono ih (by simp only; omega)⟩
    · exact cn_mono ih (by omega)
theorem has_other {top : Int} : ∀ {xs : List Span} {lo at_ v : Int}, Cn lo xs → Up top xs → at_ ≤ lo → has (otherL top at_ xs) v = (decide (at_ ≤ v ∧ v ≤ top) && !has xs v)
  | [], lo, at_, v, _, _, _ => by
    unfold otherL
    rw [Bool.eq_iff_iff]
    split
    · simp [has, inS]
    · simp [has]; omega
  | x :: xs, lo, at_, v, h, hu, hl => by
    unfold otherL
    have h0 := h.1
    have h1 := h.2.1
    have h2 := hu x (by simp)
    have ih := has_other (top := top) (v := v) (at_ := x.Hi + 1) h.2.2 (fun y hy => hu y (by simp [hy])) (by omega)
    rw [has_app, ih, has_cons]
    have hsplit : has (if at_ < x.Lo then [(⟨at_, x.Lo - 1⟩ : Span)] else []) v = decide (at_ ≤ v ∧ v < x.Lo) := by
      rw [Bool.eq_iff_iff]
      split
      · simp [has, inS]; omega
      · simp [has]; omega
    rw [hsplit]
    have hlow : has xs v = true → x.Hi + 2 ≤ v := fun hh => cn_has h.2.2 hh
    rw [Bool.eq_iff_iff]
    simp only [Bool.or_eq_true, decide_eq_true_eq, Bool.and_eq_true, Bool.not_eq_true', Bool.or_eq_false_iff]
    have hin : inS x v = false ↔ ¬ (x.Lo ≤ v ∧ v ≤ x.Hi) := by rw [Bool.eq_false_iff, ne_eq, inS_iff]
    rw [hin]
    constructor
    · rintro (h3 | ⟨h3, h4⟩)
      · refine ⟨⟨h3.1, by omega⟩, by omega, ?_⟩
        rw [Bool.eq_false_iff]; intro hh; have := hlow hh; omega
      · exact ⟨⟨by omega, h3.2⟩, by omega, h4⟩
    · rintro ⟨h3, h4, h5⟩
      by_cases h6 : v < x.Lo
      · exact .inl ⟨h3.1, h6⟩
      · exact .inr ⟨⟨by omega, h3.2⟩, h5⟩
theorem up_other {top : Int} : ∀ {xs : List Span} {lo at_ : Int}, Cn lo xs → Up top xs → Up top (otherL top at_ xs)
  | [], _, at_, _, _ => by
    unfold otherL
    split
    · intro z hz; rw [List.mem_singleton.1 hz]; exact Int.le_refl _
    · intro z hz; cases hz
  | x :: xs, _, at_, h, hu => by
    unfold otherL
    have ih := up_other (top := top) (at_ := x.Hi + 1) h.2.2 (fun y hy => hu y (by simp [hy]))
    have h1 := h.2.1
    have h2 := hu x (by simp)
    intro z hz
    rcases List.mem_append.1 hz with hz | hz
    · split at hz
      · rw [List.mem_singleton.1 hz]; simp only; omega
      · cases hz
    · exact ih z hz
theorem Set0.other {top : Int} {xs : List Span} (h : Set0 top xs) : Set0 top (otherL top 0 xs) := ⟨h.t0, h.t1, cn_other h.cn (Int.le_refl _), up_other h.cn h.up⟩
theorem Set0.has_other {top : Int} {xs : List Span} (h : Set0 top xs) (v : Int) : has (otherL top 0 xs) v = (decide (0 ≤ v ∧ v ≤ top) && !has xs v) := F.has_other h.cn h.up (Int.le_refl _)
theorem spec_other {a : List Span} {top : Int} (ha : Set0 top a) : spec_l2Other a top = some (otherL top 0 a) := by
  have hal := ha.len
  have h1 := ha.t1
  have h0 := ha.t0
  unfold spec_l2Other
  obtain ⟨o, ho, hq⟩ := loop_wf (body := spec_l2Other_L0 a)
    (fun s => ∃ k : Nat, s.2.2 = (k : Int) ∧ k ≤ a.length ∧ 0 ≤ s.2.1 ∧ s.2.1 ≤ 65536 ∧ s.1.length ≤ k ∧ s.1 ++ otherL top s.2.1 (a.drop k) = otherL top 0 a) (fun s => a.length - s.2.2.toNat)
    (fun o => ∃ s : List Span × Int × Int, o = .brk s ∧ s.1.length ≤ 40000 ∧ s.1 ++ (if s.2.1 ≤ top then [⟨s.2.1, top⟩] else []) = otherL top 0 a)
    (fun s ⟨k, h1, h2, h3, h4, h5, h6⟩ => by
      obtain ⟨y, at_, i⟩ := s
      simp only at h1 h3 h4 h5 h6
      subst h1
      rcases drop_cases a k h2 with ⟨e, rfl⟩ | ⟨x, t, e, hk, hx, et⟩
      · refine .inr (.inl ⟨(y, at_, (a.length : Int)), ?_, _, rfl, by simp only; omega, ?_⟩)
        · unfold spec_l2Other_L0
          simp only [lt_false (Int.le_refl _), cond_false]
        · rw [e] at h6; exact h6
      · have hm := ha.mem (x := x) (List.mem_of_mem_drop (i := k) (by rw [e]; simp))
        rw [e] at h6
        rw [show otherL top at_ (x :: t) = (if at_ < x.Lo then [⟨at_, x.Lo - 1⟩] else []) ++ otherL top (x.Hi + 1) t from rfl] at h6
        by_cases hc : at_ < x.Lo
        · refine .inl ⟨(y ++ [⟨at_, x.Lo - 1⟩], x.Hi + 1, ((k + 1 : Nat) : Int)), ?_, ⟨k + 1, rfl, hk, by simp only; omega, by simp only; omega, by simp; omega, ?_⟩, by simp; omega⟩
          · unfold spec_l2Other_L0
            simp only [lt_true (show (k : Int) < (a.length : Int) by omega), cond_true, hx, Option.bind_some, lt_true hc, app_ok (show y.length + [(⟨at_, x.Lo - 1⟩ : Span)].length ≤ 4294967296 by simp; omega), W_succ (show k < 9223372036854775807 by omega), W_of (show -9223372036854775808 ≤ x.Hi + 1 by omega) (by omega), W_of (show -9223372036854775808 ≤ x.Lo - 1 by omega) (by omega)]
          · rw [if_pos hc] at h6
            rw [et]; simpa using h6
        · refine .inl ⟨(y, x.Hi + 1, ((k + 1 : Nat) : Int)), ?_, ⟨k + 1, rfl, hk, by simp only; omega, by simp only; omega, by simp only; omega, ?_⟩, by simp; omega⟩
          · unfold spec_l2Other_L0
            simp only [lt_true (show (k : Int) < (a.length : Int) by omega), cond_true, hx, Option.bind_some, decide_eq_false hc, cond_false, W_succ (show k < 9223372036854775807 by omega), W_of (show -9223372036854775808 ≤ x.Hi + 1 by omega) (by omega)]
          · rw [if_neg hc] at h6
            rw [et]; simpa using h6)
    (((a.length : Int)) - 0).toNat.succ (([] : List Span), 0, 0) ⟨0, rfl, Nat.zero_le _, by simp, by simp, by simp, by simp⟩ (by simp)
  rw [ho]
  obtain ⟨⟨y, at_, i⟩, rfl, hl, he⟩ := hq
  simp only [Option.bind_some, LR.on]
  simp only at hl he
  by_cases hc : at_ ≤ top
  · rw [le_true hc, cond_true, app_ok (by simp; omega), Option.bind_some]
    rw [if_pos hc] at he; rw [he]
  · rw [decide_eq_false hc, cond_false]
    rw [if_neg hc] at he
    simp only [List.append_nil] at he
    rw [he]
def lessL (top : Int) (a b : List Span) : List Span := meetL a (otherL top 0 b)
theorem Set0.less {top : Int} {a b : List Span} (ha : Set0 top a) (hb : Set0 top b) : Set0 top (lessL top a b) := ha.meet hb.other
theorem has_less {top : Int} {a b : List Span} (ha : Set0 top a) (hb : Set0 top b) (v : Int) : has (lessL top a b) v = (has a v && !has b v) := by
  unfold lessL
  rw [has_meetL, hb.has_other]
  cases h : has a v with
  | false => rfl
  | true =>
    have := ha.bound h
    rw [decide_eq_true this]
    simp
end Go.PF.F
