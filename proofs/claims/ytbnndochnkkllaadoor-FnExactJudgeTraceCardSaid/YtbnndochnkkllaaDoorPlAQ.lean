import Derived.Test.YtbnndochnkkllaaDoorPlY
/- Plain laws: cutting boxes (the program). -/
namespace Go.PF.F
open Go Go.PF

end Go.PF.F

/- Plain laws: boxes within boxes. -/
namespace Go.PF.F
open Go Go.PF

/-- A box with at most m spans on a side. -/
def OkN (m : Nat) (b : Box) : Prop := b.Sides.length ≤ 5 ∧ ∀ x ∈ b.Sides, x.length ≤ m
def FewN (m : Nat) (s : List (List Span)) : Prop := ∀ k, k < 4 → (sd s k).length ≤ m
theorem OkN.mono {m k : Nat} {b : Box} (h : OkN m b) (hm : m ≤ k) : OkN k b := ⟨h.1, fun x hx => Nat.le_trans (h.2 x hx) hm⟩
theorem OkN.sd {m : Nat} {b : Box} (h : OkN m b) (k : Nat) : (F.sd b.Sides k).length ≤ m := by
  unfold F.sd
  rw [List.getD_eq_getElem?_getD]
  cases hx : b.Sides[k]? with
  | none => simp
  | some x => exact h.2 x (List.mem_of_getElem? hx)
theorem OkN.of {m : Nat} {s : List (List Span)} (h : B4 s) (hf : FewN m s) : OkN m ⟨s⟩ := ⟨by show s.length ≤ 5; rw [h.1]; decide, fun x hx => by
  obtain ⟨i, hi, rfl⟩ := List.getElem_of_mem hx
  have h4 : i < 4 := by have := h.1; simp only at hi; omega
  have := sd_get h.1 h4
  rw [List.getElem?_eq_getElem hi] at this
  rw [Option.some.inj this]
  exact hf i h4⟩
theorem OkN.set {m : Nat} {s : List (List Span)} (h : OkN m ⟨s⟩) (k : Nat) {x : List Span} (hx : x.length ≤ m) : OkN m ⟨s.set k x⟩ := ⟨by have := h.1; simp at this ⊢; omega, fun y hy => by
  rcases List.mem_or_eq_of_mem_set hy with hm | hm
  · exact h.2 y hm
  · rw [hm]; exact hx⟩
theorem FewN.set {m : Nat} {s : List (List Span)} (hl : s.length = 4) (h : FewN m s) {k : Nat} (hk : k < 4) {x : List Span} (hx : x.length ≤ m) : FewN m (s.set k x) := fun j hj => by
  rw [sd_set hl hk]
  split
  · exact hx
  · exact h j hj
end Go.PF.F

/- Plain laws: what a region leaves of a box (the program). -/
namespace Go.PF.F
open Go Go.PF

end Go.PF.F

/- Plain laws: what cutting means for points. -/
namespace Go.PF.F
open Go Go.PF

/-- The point f lies in s. -/
def hasB (s : List (List Span)) (f : Nat → Int) : Prop := ∀ k, k < 4 → has (sd s k) (f k) = true
def Dj (p q : List (List Span)) : Prop := ∀ f, hasB p f → ¬ hasB q f
theorem Dj.symm {p q : List (List Span)} (h : Dj p q) : Dj q p := fun f hq hp => h f hp hq
end Go.PF.F

/- Plain laws: cutting boxes, what the laws ask. -/
namespace Go.PF.F
open Go Go.PF

end Go.PF.F

/- Plain laws: what a region leaves of a box (the reference), draws. -/
namespace Go.PF.F
open Go Go.PF

end Go.PF.F

/- Plain laws: RegionLess, RegionMore, RegionOrder. -/
namespace Go.PF.F
open Go Go.PF

end Go.PF.F

/- Plain laws: BoxCut. -/
namespace Go.PF.F
open Go Go.PF

end Go.PF.F
