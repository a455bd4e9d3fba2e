/- Rows that are made while the order is open; copies that stay the call's own; no condition. -/
import Derived.Test.YtgglogmjjaahhaaDoorPFHead
namespace Go.PF
open Go Go.RowKit
section
variable {α : Type} {R : RTy α} {B T : Nat} {w w' w0 : World} {M M' M0 X : Nat → Prop} {xs : List α} {v : Value}
/-- A row that was made since w, of data of w. -/
def PNQ (R : RTy α) (B T : Nat) (w : World) (M : Nat → Prop) (xs : List α) : Value → World → Prop := fun v w' =>
  BX No w w' ∧ (∀ b, v.ownBlock = some b → w.heap.size ≤ b) ∧ ∃ cells, w'.ownsRow B T R.size v xs.length cells ∧ RepAll R w M xs cells
theorem PNQ.mono : Mono (PNQ R B T w M xs) := fun _ _ _ hb ⟨h0, h1, cells, h2, h3⟩ => ⟨h0.trans hb, h1, cells, ownsRow_go h2 hb (fun _ _ e => e), h3⟩
theorem PNQ.own (h : PNQ R B T w M xs v w') (hl : Le w M w' M') (hM : ∀ b, v.ownBlock = some b → M' b) : OwnRow R B T w' M' xs v := let ⟨_, _, cells, h1, h2⟩ := h; ⟨cells, h1, h2.mono hl, hM⟩
theorem PNQ.block (h : PNQ R B T w M xs v w') {b : Nat} (hb : v.ownBlock = some b) : w.heap.size ≤ b ∧ b < w'.heap.size := by
  obtain ⟨_, h1, cells, h2, _⟩ := h
  refine ⟨h1 b hb, ?_⟩
  rcases h2.2 with ⟨rfl, _⟩ | ⟨g, cap, cur, rfl, _, hh, _⟩
  · simp [Value.ownBlock] at hb
  · simp only [Value.ownBlock, Option.some.injEq] at hb
    subst hb
    rcases Nat.lt_or_ge g w'.heap.size with hlt | hge
    · exact hlt
    · rw [Array.getElem?_eq_none hge] at hh; cases hh
theorem PNQ.len (h : PNQ R B T w M xs v w') : ∃ A c, v = .slice A xs.length c := by
  obtain ⟨_, _, cells, h2, _⟩ := h
  rcases h2.2 with ⟨rfl, h0⟩ | ⟨g, cap, cur, rfl, _⟩
  · exact ⟨none, 0, by rw [h0]⟩
  · exact ⟨_, _, rfl⟩
/-- A struct of such a row and a boolean. -/
def PNA (R : RTy α) (B T : Nat) (w : World) (M : Nat → Prop) (xs : List α) (b : Bool) : Value → World → Prop := fun u w' => ∃ v, u = .agg #[v, .bool b] ∧ PNQ R B T w M xs v w'
theorem PNA.mono {b : Bool} : Mono (PNA R B T w M xs b) := fun _ _ _ hb ⟨v, e, h⟩ => ⟨v, e, PNQ.mono _ _ _ hb h⟩
def PLit0 : Value → World → Prop := fun v _ => ∃ p, v = .slice (some p) 0 0
theorem PLit0.mono : Mono PLit0 := fun _ _ _ _ h => h
/-- A slice that is full. -/
def PFull (R : RTy α) (M : Nat → Prop) (xs : List α) : Value → World → Prop := fun v w' => ∃ p, v = .slice (some p) xs.length xs.length ∧ VRep (RSlice R) w' M xs v
theorem PFull.mono (R : RTy α) (M : Nat → Prop) (xs : List α) : Mono (PFull R M xs) := fun _ _ _ hb ⟨p, e, h⟩ => ⟨p, e, VRep.mono (Le.no M hb) h⟩
def AddRow (v : Value) (M : Nat → Prop) : Nat → Prop := fun b => v.ownBlock = some b ∨ M b
theorem Le.addRow (h : Le w M w' M') (hv : ∀ b, v.ownBlock = some b → w.heap.size ≤ b) : Le w M w' (AddRow v M') := ⟨h.size, h.keep, fun b hb hm => by
  rcases hm with hm | hm
  · have := hv b hm; omega
  · exact h.old b hb hm⟩
theorem Cx.addRow (h : Cx X w0 M0 w M) (hv : ∀ b, v.ownBlock = some b → w0.heap.size ≤ b ∧ b < w.heap.size) : Cx X w0 M0 w (AddRow v M) :=
  ⟨h.bx, fun b hb => hb.elim (fun e => (hv b e).2) (h.old b), fun b hb => .inr (h.sup b hb), fun b hb => .inr (h.xm b hb), fun b hb => hb.elim (fun e => .inr (hv b e).1) (h.lo b)⟩
end
section
variable {P : Program} {Q : Exit → Act → World → Prop} {n : Nat} {E : List (Nat × Value)} {ws w w0 : World} {M M0 X : Nat → Prop} {o : Oper} {K : Value → World → Prop} {α : Type}
end
end Go.PF
