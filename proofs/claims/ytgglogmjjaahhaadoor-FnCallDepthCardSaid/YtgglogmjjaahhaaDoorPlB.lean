/- Plain laws: validity. -/
import Derived.Test.YtgglogmjjaahhaaDoorPlA
namespace Go.PF.F
open Go Go.PF

/-- The answer is whether P. -/
def Dec (o : Option Bool) (P : Prop) : Prop := ∃ r, o = some r ∧ (r = true ↔ P)
theorem Dec.same {o o' : Option Bool} {P : Prop} (h : Dec o P) (k : Dec o' P) : ∃ r, o = some r ∧ o' = some r ∧ (r = true ↔ P) := by
  obtain ⟨r, e, hr⟩ := h
  obtain ⟨r', e', hr'⟩ := k
  have : r = r' := by
    cases r <;> cases r' <;> simp_all
  exact ⟨r, e, this ▸ e', hr⟩
theorem Dec.mk {b : Bool} {P : Prop} (h : b = true ↔ P) : Dec (some b) P := ⟨b, rfl, h⟩
theorem Dec.no {P : Prop} (h : ¬ P) : Dec (some false) P := ⟨false, rfl, by simp [h]⟩
theorem Dec.yes {P : Prop} (h : P) : Dec (some true) P := ⟨true, rfl, by simp [h]⟩

/-- The spans lie in [0, top], in order, apart. -/
def SV (xs : List Span) (top : Int) (n : Nat) : Prop := ∀ (i : Nat) (x : Span), i < n → xs[i]? = some x → 0 ≤ x.Lo ∧ x.Lo ≤ x.Hi ∧ x.Hi ≤ top ∧ ∀ p, 0 < i → xs[i - 1]? = some p → p.Hi + 2 ≤ x.Lo
def SVP (xs : List Span) (top : Int) : Prop := (0 ≤ top ∧ top ≤ 65535) ∧ xs.length ≤ 40 ∧ SV xs top xs.length
theorem SV.succ {xs : List Span} {top : Int} {k : Nat} (h : SV xs top k) {x : Span} (hx : xs[k]? = some x) (h1 : 0 ≤ x.Lo ∧ x.Lo ≤ x.Hi ∧ x.Hi ≤ top) (h2 : ∀ p, 0 < k → xs[k - 1]? = some p → p.Hi + 2 ≤ x.Lo) : SV xs top (k + 1) := by
  intro i y hi hy
  by_cases e : i = k
  · subst e
    obtain rfl : x = y := Option.some.inj (hx.symm.trans hy)
    exact ⟨h1.1, h1.2.1, h1.2.2, h2⟩
  · exact h i y (by omega) hy

theorem in_dec (n lo hi : Int) : spec_l1In n lo hi = some (decide (lo ≤ n ∧ n ≤ hi)) := by
  unfold spec_l1In
  by_cases h : lo ≤ n <;> by_cases h2 : n ≤ hi <;> simp [h, h2]
/-- The highest value of field number i. -/
def topOf (i : Nat) : Int := if i = 0 then 65535 else if i = 1 then 65535 else if i = 2 then 255 else if i = 3 then 7 else -1
theorem spec_top (k : Nat) : spec_FieldTop (k : Int) = some (topOf k) := by
  unfold spec_FieldTop topOf
  by_cases h0 : k = 0
  · subst h0; rfl
  by_cases h1 : k = 1
  · subst h1; rfl
  by_cases h2 : k = 2
  · subst h2; rfl
  by_cases h3 : k = 3
  · subst h3; rfl
  rw [if_neg h0, if_neg h1, if_neg h2, if_neg h3]
  rw [(by simp; omega : ((k : Int) == 0) = false), (by simp; omega : ((k : Int) == 1) = false), (by simp; omega : ((k : Int) == 2) = false), (by simp; omega : ((k : Int) == 3) = false)]; rfl
theorem impl_top (k : Nat) : impl_FieldTop (k : Int) = some (topOf k) := by
  unfold impl_FieldTop topOf
  by_cases h0 : k = 0
  · subst h0; rfl
  by_cases h1 : k = 1
  · subst h1; rfl
  by_cases h2 : k = 2
  · subst h2; rfl
  by_cases h3 : k = 3
  · subst h3; rfl
  rw [if_neg h0, if_neg h1, if_neg h2, if_neg h3]
  rw [decide_eq_false (by omega : ¬ (k : Int) < 0), decide_eq_true (by omega : (4 : Int) ≤ (k : Int))]; rfl

/-- The box is valid. -/
def BV (b : Box) : Prop := b.Sides.length = 4 ∧ ∀ (i : Nat) xs, b.Sides[i]? = some xs → SVP xs (topOf i)
end Go.PF.F
