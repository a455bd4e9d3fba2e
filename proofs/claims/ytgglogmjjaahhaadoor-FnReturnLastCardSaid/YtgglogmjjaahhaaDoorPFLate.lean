/- Statements whose order is open and of which one operation may come late; small open orders, one by one; no condition. -/
import Derived.Test.YtgglogmjjaahhaaDoorPFWalk
namespace Go.PF
open Go Go.RowKit

/-! Small open orders. -/
section
variable {P : Program} {ops : Array Oper} {Q : Exit → Act → World → Prop} {n fuel : Nat} {E : List (Nat × Value)} {w : World} {ls : List Bool}
def ND (P : Program) (ops : Array Oper) (Q : Exit → Act → World → Prop) (fuel : Nat) (ls : List Bool) (n : Nat) (E : List (Nat × Value)) (w : World) (i : Nat) : Prop := ∀ a, Fits n E a → wpOp P ops Q i (wpAny P .any ops Q fuel (ls.set i true).toArray) a w
def NDs (P : Program) (ops : Array Oper) (Q : Exit → Act → World → Prop) (fuel : Nat) (ls : List Bool) (n : Nat) (E : List (Nat × Value)) (w : World) : List Nat → Prop
  | [] => True
  | i :: is => ND P ops Q fuel ls n E w i ∧ NDs P ops Q fuel ls n E w is
theorem NDs.at_ : ∀ {js : List Nat}, NDs P ops Q fuel ls n E w js → ∀ i ∈ js, ND P ops Q fuel ls n E w i
  | _ :: _, h, i, hi => by
    rcases List.mem_cons.1 hi with rfl | hi
    · exact h.1
    · exact NDs.at_ h.2 i hi
end
/-! One operation may come late. -/
section
variable {P : Program} {Q : Exit → Act → World → Prop} {n : Nat} {E : List (Nat × Value)} {w : World} {l : List Oper} {m s : Nat} {keys : List Nat}
variable {d t : Nat} {x : Value}
theorem look_cons (E : List (Nat × Value)) (d : Nat) (x : Value) (u : Nat) : look ((d, x) :: E) u = if d = u then some x else look E u := by
  show (bif Nat.beq d u then some x else look E u) = _
  by_cases h : d = u
  · subst h; simp
  · rw [if_neg h, show Nat.beq d u = false from by rw [Bool.eq_false_iff]; intro e; exact h (Nat.eq_of_beq_eq_true e)]; rfl
end
def LSub (E' E : List (Nat × Value)) : Prop := ∀ u v, look E' u = some v → look E u = some v
theorem LSub.of : ∀ {E' E : List (Nat × Value)}, Sub E' E → LSub E' E
  | [], _, _ => fun u v h => by cases h
  | (t, x) :: E', E, h => fun u v hu => by
    rw [look_cons] at hu
    split at hu
    · rename_i e; subst e; rw [← hu]; exact h.1
    · exact LSub.of h.2 u v hu
theorem LSub.cons {E' E : List (Nat × Value)} (h : LSub E' E) (d : Nat) (x : Value) : LSub ((d, x) :: E') ((d, x) :: E) := fun u v hu => by
  rw [look_cons] at hu ⊢
  split at hu
  · rename_i e; rw [if_pos e]; exact hu
  · rename_i e; rw [if_neg e]; exact h u v hu
end Go.PF
