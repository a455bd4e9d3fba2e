/- Rows of the caller's that a call makes longer or shorter; rows that grow while the order is open; no condition. -/
import Derived.Test.YtbnndochnkkllaaDoorPFChain
namespace Go.PF
open Go Go.RowKit

section
variable {X Y : Nat → Prop} {w0 w w' : World} {M0 M M' : Nat → Prop}
theorem Cx.trans2 (h : Cx X w0 M0 w M) (k : Cx Y w M w' M') (hY : ∀ b, Y b → w0.heap.size ≤ b ∨ X b) : Cx X w0 M0 w' M' :=
  ⟨(h.go k.bx hY).bx, k.old, fun b hb => k.sup b (h.sup b hb), fun b hb => k.sup b (h.xm b hb), fun b hb => by
    rcases k.lo b hb with h1 | h1
    · exact h.lo b h1
    · exact .inr (Nat.le_trans h.bx.size h1)⟩
end
section
variable {α : Type} {R : RTy α} {B B' e : Nat} {w w' : World} {M M' : Nat → Prop} {xs : List α} {v : Value}
theorem OwnRow.mem (h : OwnRow R B e w M xs v) : ∀ g, v.ownBlock = some g → M g := let ⟨_, _, _, h⟩ := h; h
theorem OwnRow.raise (h : OwnRow R B e w M xs v) (hB : ∀ g, v.ownBlock = some g → B' ≤ g) : OwnRow R B' e w M xs v := by
  obtain ⟨cells, ⟨h1, h2⟩, h3, h4⟩ := h
  refine ⟨cells, ⟨h1, ?_⟩, h3, h4⟩
  rcases h2 with h2 | ⟨g, cap, cur, rfl, hg, r⟩
  · exact .inl h2
  · exact .inr ⟨g, cap, cur, rfl, hB g rfl, r⟩
end
section
variable {P : Program} {Q : Exit → Act → World → Prop} {n : Nat} {E : List (Nat × Value)} {w w0 : World} {M M0 X : Nat → Prop} {o : Oper} {K : Value → World → Prop} {α β : Type}
end
/-! A row that grows while the order is open. -/
/-- What a row is that has grown since w. -/
def PApp {α : Type} (R : RTy α) (B e : Nat) (X : Nat → Prop) (w0 : World) (M0 : Nat → Prop) (w : World) (M : Nat → Prop) (v : Value) (zs : List α) : Value → World → Prop := fun v' w' =>
  ∃ M', OwnRow R B e w' M' zs v' ∧ BX (fun b => v.ownBlock = some b) w w' ∧ Le w M w' M' ∧ Cx X w0 M0 w' M' ∧ (∀ b, M b → M' b) ∧ ∀ b, v'.ownBlock = some b → v.ownBlock = some b ∨ w.heap.size ≤ b
theorem PApp.mono {α : Type} (R : RTy α) (B e : Nat) (X : Nat → Prop) (w0 : World) (M0 : Nat → Prop) (w : World) (M : Nat → Prop) (v : Value) (zs : List α) : Mono (PApp R B e X w0 M0 w M v zs) :=
  fun _ _ _ hb ⟨M', h1, h2, h3, h4, h5, h6⟩ => ⟨M', h1.no hb, h2.trans hb.no_to, h3.trans (Le.no M' hb), h4.no hb, h5, h6⟩
/-- A part of a row. -/
def PRow {α : Type} (R : RTy α) (B e : Nat) (M : Nat → Prop) (zs : List α) (v : Value) : Value → World → Prop := fun u w' => OwnRow R B e w' M zs u ∧ u.ownBlock = v.ownBlock
theorem PRow.mono {α : Type} (R : RTy α) (B e : Nat) (M : Nat → Prop) (zs : List α) (v : Value) : Mono (PRow R B e M zs v) := fun _ _ _ hb h => ⟨h.1.no hb, h.2⟩
/-! Actions. -/
section
variable {P : Program} {Q : Exit → Act → World → Prop} {n : Nat} {E : List (Nat × Value)} {w : World} {o : Oper} {K : Value → World → Prop}
end
end Go.PF
