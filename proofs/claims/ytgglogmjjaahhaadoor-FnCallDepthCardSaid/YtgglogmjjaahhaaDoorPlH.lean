/- Plain laws: sets of numbers. -/
import Derived.Test.YtgglogmjjaahhaaDoorPlG
namespace Go.PF.F
open Go Go.PF

/-- A set in its only form, from lo on. -/
def Cn (lo : Int) : List Span → Prop
  | [] => True
  | x :: xs => lo ≤ x.Lo ∧ x.Lo ≤ x.Hi ∧ Cn (x.Hi + 2) xs
def inS (x : Span) (v : Int) : Bool := decide (x.Lo ≤ v ∧ v ≤ x.Hi)
def has (xs : List Span) (v : Int) : Bool := xs.any fun x => inS x v
/-- No number of it is above top. -/
def Up (top : Int) (xs : List Span) : Prop := ∀ x ∈ xs, x.Hi ≤ top
theorem cn_mono {lo lo' : Int} {xs : List Span} (h : Cn lo xs) (hl : lo' ≤ lo) : Cn lo' xs := by
  cases xs with
  | nil => trivial
  | cons x xs => exact ⟨Int.le_trans hl h.1, h.2⟩
theorem cn_lo : ∀ {lo : Int} {xs : List Span}, Cn lo xs → ∀ x ∈ xs, lo ≤ x.Lo ∧ x.Lo ≤ x.Hi
  | lo, x :: xs, h, y, hy => by
    rcases List.mem_cons.1 hy with rfl | hy
    · exact ⟨h.1, h.2.1⟩
    · have h0 := h.1
      have h1 := h.2.1
      have := cn_lo h.2.2 y hy
      omega
theorem cn_len : ∀ {xs : List Span} {lo top : Int}, Cn lo xs → Up top xs → lo ≤ top + 2 → lo + 2 * (xs.length : Int) ≤ top + 2
  | [], lo, top, _, _, h => by simpa using h
  | x :: xs, lo, top, h, hu, hl => by
    have h1 := hu x (by simp)
    have h0 := h.1
    have h2 := h.2.1
    have := cn_len h.2.2 (fun y hy => hu y (by simp [hy])) (by omega)
    simp only [List.length_cons, Int.natCast_add, Int.natCast_one] at this ⊢
    omega
theorem cn_len' {xs : List Span} {top : Int} (h : Cn 0 xs) (hu : Up top xs) (h0 : 0 ≤ top) (h1 : top ≤ 65535) : xs.length ≤ 32768 := by
  have := cn_len h hu (by omega); omega
/-! The program's validity is this form. -/
/-- A set of numbers up to top, in its only form. -/
structure Set0 (top : Int) (xs : List Span) : Prop where
  t0 : 0 ≤ top
  t1 : top ≤ 65535
  cn : Cn 0 xs
  up : Up top xs
theorem Set0.len {top : Int} {xs : List Span} (h : Set0 top xs) : xs.length ≤ 32768 := cn_len' h.cn h.up h.t0 h.t1
theorem Set0.mem {top : Int} {xs : List Span} (h : Set0 top xs) {x : Span} (hx : x ∈ xs) : 0 ≤ x.Lo ∧ x.Lo ≤ x.Hi ∧ x.Hi ≤ top :=
  have := cn_lo h.cn x hx; ⟨this.1, this.2, h.up x hx⟩
theorem Set0.nil {top : Int} (h0 : 0 ≤ top) (h1 : top ≤ 65535) : Set0 top [] := ⟨h0, h1, trivial, fun _ h => by cases h⟩
theorem Set0.one {top lo hi : Int} (h0 : 0 ≤ lo) (h1 : lo ≤ hi) (h2 : hi ≤ top) (h3 : top ≤ 65535) : Set0 top [⟨lo, hi⟩] :=
  ⟨by omega, h3, ⟨h0, h1, trivial⟩, fun x hx => by rw [List.mem_singleton.1 hx]; exact h2⟩
/-! Meetings. -/
theorem imax_le {a b c : Int} : imax a b ≤ c ↔ a ≤ c ∧ b ≤ c := by unfold imax; split <;> omega
theorem le_imax {a b c : Int} : c ≤ imax a b ↔ c ≤ a ∨ c ≤ b := by unfold imax; split <;> omega
theorem imin_le {a b c : Int} : imin a b ≤ c ↔ a ≤ c ∨ b ≤ c := by unfold imin; split <;> omega
theorem le_imin {a b c : Int} : c ≤ imin a b ↔ c ≤ a ∧ c ≤ b := by unfold imin; split <;> omega
/-! What is not in a set. -/
def otherL (top : Int) : Int → List Span → List Span
  | at_, [] => if at_ ≤ top then [⟨at_, top⟩] else []
  | at_, x :: xs => (if at_ < x.Lo then [⟨at_, x.Lo - 1⟩] else []) ++ otherL top (x.Hi + 1) xs
theorem cn_other {top : Int} : ∀ {xs : List Span} {lo at_ : Int}, Cn lo xs → at_ ≤ lo → Cn at_ (otherL top at_ xs)
  | [], lo, at_, _, _ => by
    unfold otherL
    split
    · exact ⟨Int.le_refl _, by assumption, trivial⟩
    · trivial
  | x :: xs, lo, at_, h, hl => by
    unfold otherL
    have h0 := h.1
    have h1 := h.2.1
    have ih : Cn (x.Hi + 1) (otherL top (x.Hi + 1) xs) := cn_other h.2.2 (by omega)
    split
    · exact ⟨Int.le_refl _, by simp only; omega, cn_mono ih (by simp only; omega)⟩
    · exact cn_mono ih (by omega)
theorem up_other {top : Int} : ∀ {xs : List Span} {lo at_ : Int}, Cn lo xs → Up top xs → Up top (otherL top at_ xs)
  | [], _, at_, _, _ => by
    unfold otherL
    split
    · intro z hz; rw [List.mem_singleton.1 hz]; exact Int.le_refl _
    · intro z hz; cases hz
  | x :: xs, _, at_, h, hu => by
    unfold otherL
    have ih := up_other (top := top) (at_ := x.Hi + 1) h.2.2 (fun y hy => hu y (by simp [hy]))
    have h1 := h.2.1
    have h2 := hu x (by simp)
    intro z hz
    rcases List.mem_append.1 hz with hz | hz
    · split at hz
      · rw [List.mem_singleton.1 hz]; simp only; omega
      · cases hz
    · exact ih z hz
theorem Set0.other {top : Int} {xs : List Span} (h : Set0 top xs) : Set0 top (otherL top 0 xs) := ⟨h.t0, h.t1, cn_other h.cn (Int.le_refl _), up_other h.cn h.up⟩
end Go.PF.F
