/- Statements whose order is open and of which one operation may come late; small open orders, one by one; no condition. -/
import Derived.Test.YtbnndochnkkllaaDoorPFWalk
namespace Go.PF
open Go Go.RowKit

/-! Small open orders. -/
section
variable {P : Program} {ops : Array Oper} {Q : Exit → Act → World → Prop} {n fuel : Nat} {E : List (Nat × Value)} {w : World} {ls : List Bool}
def TW (P : Program) (ops : Array Oper) (Q : Exit → Act → World → Prop) (fuel : Nat) (ls : List Bool) (n : Nat) (E : List (Nat × Value)) (w : World) : Prop := ∀ a, Fits n E a → wpAny P .any ops Q fuel ls.toArray a w
def ND (P : Program) (ops : Array Oper) (Q : Exit → Act → World → Prop) (fuel : Nat) (ls : List Bool) (n : Nat) (E : List (Nat × Value)) (w : World) (i : Nat) : Prop := ∀ a, Fits n E a → wpOp P ops Q i (wpAny P .any ops Q fuel (ls.set i true).toArray) a w
def NDs (P : Program) (ops : Array Oper) (Q : Exit → Act → World → Prop) (fuel : Nat) (ls : List Bool) (n : Nat) (E : List (Nat × Value)) (w : World) : List Nat → Prop
  | [] => True
  | i :: is => ND P ops Q fuel ls n E w i ∧ NDs P ops Q fuel ls n E w is
theorem NDs.at_ : ∀ {js : List Nat}, NDs P ops Q fuel ls n E w js → ∀ i ∈ js, ND P ops Q fuel ls n E w i
  | _ :: _, h, i, hi => by
    rcases List.mem_cons.1 hi with rfl | hi
    · exact h.1
    · exact NDs.at_ h.2 i hi
theorem tw_end (hr : Region.ready .any ops ls.toArray = []) (h : EW .normal Q n E w) : TW P ops Q fuel ls n E w := by
  intro a ha
  cases fuel with
  | zero => exact ⟨hr, h a ha⟩
  | succ f => exact ⟨fun _ => h a ha, fun i hi => by rw [hr] at hi; cases hi⟩
theorem tw_step {i : Nat} {js : List Nat} (hr : Region.ready .any ops ls.toArray = i :: js) (h : NDs P ops Q fuel ls n E w (i :: js)) : TW P ops Q (fuel + 1) ls n E w := by
  intro a ha
  refine ⟨fun e => (by rw [hr] at e; cases e), fun j hj => ?_⟩
  have := h.at_ j (hr ▸ hj) a ha
  rw [show ls.toArray.setIfInBounds j true = (ls.set j true).toArray by simp]
  exact this
theorem nd_op {i d : Nat} {o : Oper} (ho : ops[i]? = some o) (hg : o.guard = none) (hd : o.dst = some d) (hlt : Nat.ble (d + 1) n = true)
    (h : OW P o n E w (fun v w' => TW P ops Q fuel (ls.set i true) n ((d, v) :: E) w') Q) : ND P ops Q fuel ls n E w i := by
  intro a ha
  unfold wpOp
  simp only [ho]
  rw [if_pos (by simp [Region.wanted, hg])]
  refine .inl (Oper.wp_mono ?_ (h a ha))
  rintro a' w' ⟨v, rfl, hl⟩
  rw [hd]
  exact hl _ (ha.put (Nat.le_of_ble_eq_true hlt) v)
theorem nd_op0 {i : Nat} {o : Oper} (ho : ops[i]? = some o) (hg : o.guard = none) (hd : o.dst = none)
    (h : OW P o n E w (fun _ w' => TW P ops Q fuel (ls.set i true) n E w') Q) : ND P ops Q fuel ls n E w i := by
  intro a ha
  unfold wpOp
  simp only [ho]
  rw [if_pos (by simp [Region.wanted, hg])]
  refine .inl (Oper.wp_mono ?_ (h a ha))
  rintro a' w' ⟨v, rfl, hl⟩
  rw [hd]
  exact hl _ ha
end
theorem cw_tree {P : Program} {Q : Exit → Act → World → Prop} {n : Nat} {E : List (Nat × Value)} {w : World} {l : List Oper} {id : Nat} (hm : P.follows .mixedOrders = true)
    (h : ∀ w', BX No w w' → TW P l.toArray Q l.length (List.replicate l.length false) n E w') : CW P (.region id l.toArray true) Q n E w := by
  intro a ha
  refine wp_region_any hm ?_
  have := h w.drew (BX.drew w) a ha
  rw [show l.toArray.size = l.length by simp]
  simpa using this

/-! One operation may come late. -/
section
variable {P : Program} {Q : Exit → Act → World → Prop} {n : Nat} {E : List (Nat × Value)} {w : World} {l : List Oper} {m s : Nat} {keys : List Nat}
variable {d t : Nat} {x : Value}
theorem look_cons (E : List (Nat × Value)) (d : Nat) (x : Value) (u : Nat) : look ((d, x) :: E) u = if d = u then some x else look E u := by
  show (bif Nat.beq d u then some x else look E u) = _
  by_cases h : d = u
  · subst h; simp
  · rw [if_neg h, show Nat.beq d u = false from by rw [Bool.eq_false_iff]; intro e; exact h (Nat.eq_of_beq_eq_true e)]; rfl
end
def LSub (E' E : List (Nat × Value)) : Prop := ∀ u v, look E' u = some v → look E u = some v
theorem LSub.of : ∀ {E' E : List (Nat × Value)}, Sub E' E → LSub E' E
  | [], _, _ => fun u v h => by cases h
  | (t, x) :: E', E, h => fun u v hu => by
    rw [look_cons] at hu
    split at hu
    · rename_i e; subst e; rw [← hu]; exact h.1
    · exact LSub.of h.2 u v hu
theorem LSub.cons {E' E : List (Nat × Value)} (h : LSub E' E) (d : Nat) (x : Value) : LSub ((d, x) :: E') ((d, x) :: E) := fun u v hu => by
  rw [look_cons] at hu ⊢
  split at hu
  · rename_i e; rw [if_pos e]; exact hu
  · rename_i e; rw [if_neg e]; exact h u v hu
theorem LSub.fits {E' E : List (Nat × Value)} (h : LSub E' E) {n : Nat} {a : Act} (ha : Fits n E a) : Fits n E' a := ⟨ha.defers, ha.size, fun u v hu => ha.get u v (h u v hu)⟩
end Go.PF
