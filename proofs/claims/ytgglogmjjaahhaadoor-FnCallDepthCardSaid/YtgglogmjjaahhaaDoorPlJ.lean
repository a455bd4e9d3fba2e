/- Plain laws: boxes side by side; cutting, being within, being the same. -/
import Derived.Test.YtgglogmjjaahhaaDoorPlI
namespace Go.PF.F
open Go Go.PF

/-- Set number k of a box. -/
def sd (s : List (List Span)) (k : Nat) : List Span := s.getD k []
/-- Four sets in their only form. -/
def B4 (s : List (List Span)) : Prop := s.length = 4 ∧ ∀ k, k < 4 → Set0 (topOf k) (sd s k)
/-- None of them has too many ranges. -/
def Few (s : List (List Span)) : Prop := ∀ k, k < 4 → (sd s k).length ≤ 40
theorem sd_idx {s : List (List Span)} (h : s.length = 4) {k : Nat} (hk : k < 4) : idx s (k : Int) = some (sd s k) := by
  rw [idx_nat, sd, List.getD_eq_getElem?_getD, List.getElem?_eq_getElem (by omega)]; rfl
theorem sd_get {s : List (List Span)} (h : s.length = 4) {k : Nat} (hk : k < 4) : s[k]? = some (sd s k) := by
  rw [← idx_nat]; exact sd_idx h hk
theorem sd_set {s : List (List Span)} (h : s.length = 4) {k : Nat} (hk : k < 4) (x : List Span) (j : Nat) : sd (s.set k x) j = if j = k then x else sd s j := by
  unfold sd
  rw [List.getD_eq_getElem?_getD, List.getD_eq_getElem?_getD, List.getElem?_set]
  by_cases hj : k = j
  · subst hj
    rw [if_pos rfl, if_pos (by omega), if_pos rfl]; rfl
  · rw [if_neg hj, if_neg (fun e => hj e.symm)]
theorem B4.len {a : List (List Span)} (ha : B4 a) {k : Nat} (hk : k < 4) : (sd a k).length ≤ 32768 := (ha.2 k hk).len
theorem B4.ok {b : Box} (h : B4 b.Sides) : OkBox b := by
  refine ⟨by rw [h.1]; decide, fun x hx => ?_⟩
  obtain ⟨i, hi, rfl⟩ := List.getElem_of_mem hx
  have h4 : i < 4 := by have := h.1; omega
  have := sd_get h.1 h4
  rw [List.getElem?_eq_getElem hi] at this
  rw [Option.some.inj this]
  exact Nat.le_trans (h.len h4) (by decide)
theorem B4.okm {b : List (List Span)} (h : B4 b) : ∀ x ∈ b, x.length ≤ 32768 := by
  intro x hx
  obtain ⟨i, hi, rfl⟩ := List.getElem_of_mem hx
  have h4 : i < 4 := by have := h.1; omega
  have := sd_get h.1 h4
  rw [List.getElem?_eq_getElem hi] at this
  rw [Option.some.inj this]
  exact h.len h4
theorem spec_rows {s : List (List Span)} (h : s.length ≤ 1000000) (hs : ∀ x ∈ s, x.length ≤ 4294967296) : spec_l1OwnRowsSpan s = some s := by
  unfold spec_l1OwnRowsSpan
  have := loop_brk (body := spec_l1OwnRowsSpan_L0 s) s.length (fun k => (s.take k, (k : Int))) (s, (s.length : Int)) (fun k hk => by
      unfold spec_l1OwnRowsSpan_L0
      have hx : s[k]? = some s[k] := List.getElem?_eq_getElem hk
      simp only [lt_true (show (k : Int) < (s.length : Int) by omega), cond_true, idx_nat, hx, Option.bind_some, app_nil (hs _ (List.getElem_mem hk)), app_ok (show (s.take k).length + [s[k]].length ≤ 4294967296 by simp; omega), W_succ (show k < 9223372036854775807 by omega)]
      rw [take_snoc hx])
    (by
      unfold spec_l1OwnRowsSpan_L0
      simp only [lt_false (Int.le_refl _), cond_false, List.take_of_length_le (Nat.le_refl _)])
    (fuel := ((((s.length : Int)) : Int) - 0).toNat.succ) (by omega)
  simp only [List.take_zero, Int.natCast_zero] at this
  rw [this]; rfl
theorem B4.rows {s : List (List Span)} (h : B4 s) : spec_l1OwnRowsSpan s = some s := spec_rows (by rw [h.1]; decide) (fun x hx => Nat.le_trans (h.okm x hx) (by decide))
/-! Cutting. -/
/-! Being within. -/
/-! Being the same. -/
/-! The laws. -/
/-! Packets in regions. -/
end Go.PF.F
