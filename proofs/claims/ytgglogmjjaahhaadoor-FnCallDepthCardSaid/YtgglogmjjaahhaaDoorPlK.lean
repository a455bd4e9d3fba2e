/- Plain laws: sets from ranges, boxes from tests. -/
import Derived.Test.YtgglogmjjaahhaaDoorPlJ
namespace Go.PF.F
open Go Go.PF

/-! Adding a range to a set. -/
def addL (s : Span) : List Span → List Span
  | [] => [s]
  | x :: xs => if x.Hi + 1 < s.Lo then x :: addL s xs else if s.Hi + 1 < x.Lo then s :: x :: xs else addL ⟨imin s.Lo x.Lo, imax s.Hi x.Hi⟩ xs
theorem addL_cn : ∀ {xs : List Span} {lo : Int} {s : Span}, Cn lo xs → lo ≤ s.Lo → s.Lo ≤ s.Hi → Cn lo (addL s xs)
  | [], lo, s, _, h0, h1 => ⟨h0, h1, trivial⟩
  | x :: xs, lo, s, h, h0, h1 => by
    unfold addL
    split
    · exact ⟨h.1, h.2.1, addL_cn h.2.2 (by omega) h1⟩
    · split
      · exact ⟨h0, h1, by show s.Hi + 2 ≤ x.Lo; omega, h.2⟩
      · have h2 := h.1
        have h3 := h.2.1
        refine addL_cn (cn_mono h.2.2 (by omega)) (le_imin.2 ⟨h0, h.1⟩) ?_
        show imin s.Lo x.Lo ≤ imax s.Hi x.Hi
        have a : imin s.Lo x.Lo ≤ s.Lo := imin_le.2 (.inl (Int.le_refl _))
        have b : s.Hi ≤ imax s.Hi x.Hi := le_imax.2 (.inl (Int.le_refl _))
        omega
theorem addL_up {top : Int} : ∀ {xs : List Span} {s : Span}, Up top xs → s.Hi ≤ top → Up top (addL s xs)
  | [], s, _, h => fun z hz => by rw [List.mem_singleton.1 hz]; exact h
  | x :: xs, s, hu, h => by
    unfold addL
    have hx := hu x (by simp)
    have ht : Up top xs := fun z hz => hu z (by simp [hz])
    split
    · intro z hz
      rcases List.mem_cons.1 hz with rfl | hz
      · exact hx
      · exact addL_up ht h z hz
    · split
      · intro z hz
        rcases List.mem_cons.1 hz with rfl | hz
        · exact h
        · exact hu z hz
      · exact addL_up ht (imax_le.2 ⟨h, hx⟩)
theorem Set0.add {top : Int} {xs : List Span} {s : Span} (h : Set0 top xs) (h0 : 0 ≤ s.Lo) (h1 : s.Lo ≤ s.Hi) (h2 : s.Hi ≤ top) : Set0 top (addL s xs) := ⟨h.t0, h.t1, addL_cn h.cn h0 h1, addL_up h.up h2⟩
/-! All packets. -/
theorem top_pos {k : Nat} (hk : k < 4) : 0 ≤ topOf k ∧ topOf k ≤ 65535 := by
  match k, hk with
  | 0, _ => decide
  | 1, _ => decide
  | 2, _ => decide
  | 3, _ => decide
/-! Tests. -/
def testL (t : Test) : List Span := if t.Not then otherL (topOf t.Field.toNat) 0 [⟨t.Lo, t.Hi⟩] else [⟨t.Lo, t.Hi⟩]
theorem TV.field {t : Test} (h : TV t) : t.Field = ((t.Field.toNat : Nat) : Int) ∧ t.Field.toNat < 4 := by have := h.1; omega
theorem TV.one {t : Test} (h : TV t) : Set0 (topOf t.Field.toNat) [⟨t.Lo, t.Hi⟩] := Set0.one h.2.1.1 h.2.1.2 h.2.2 (top_pos h.field.2).2
theorem TV.set {t : Test} (h : TV t) : Set0 (topOf t.Field.toNat) (testL t) := by
  unfold testL
  split
  · exact h.one.other
  · exact h.one
theorem B4.set {s : List (List Span)} (h : B4 s) {k : Nat} (hk : k < 4) {x : List Span} (hx : Set0 (topOf k) x) : B4 (s.set k x) :=
  ⟨by rw [List.length_set]; exact h.1, fun j hj => by
    rw [sd_set h.1 hk]
    split
    · rename_i e; subst e; exact hx
    · exact h.2 j hj⟩
/-! How many ranges a meeting has. -/
end Go.PF.F
