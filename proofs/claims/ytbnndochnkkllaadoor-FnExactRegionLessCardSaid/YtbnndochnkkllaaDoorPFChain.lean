/- A statement whose order is open and whose calls write one variable, one behind the other; no condition. -/
import Derived.Test.YtbnndochnkkllaaDoorPFEls
namespace Go.PF
open Go Go.RowKit

def PRsC (P : Program) (l : List Oper) (n : Nat) (E : List (Nat × Value)) (S0 : World → Prop) (S : Nat → World → Prop) (St : World → World → Prop) (Φ : Nat → Value → World → Prop) (Q : Exit → Act → World → Prop) : List Oper → List (Option Nat) → Nat → Prop
  | [], _, _ => True
  | o :: os, none :: ks, i => (∀ (w : World) (D : Nat → Value), S0 w → DepFacts Φ D w (onsOf o) → DG P l.toArray o n (depEnv l D E (onsOf o)) w (fun v w' => BX No w w' ∧ Φ i v w') Q) ∧ PRsC P l n E S0 S St Φ Q os ks (i + 1)
  | o :: os, some c :: ks, i => (∀ (w : World) (D : Nat → Value), S c w → DepFacts Φ D w (onsOf o) → DG P l.toArray o n (depEnv l D E (onsOf o)) w (fun v w' => (S (c + 1) w' ∧ St w w') ∧ Φ i v w') Q) ∧ PRsC P l n E S0 S St Φ Q os ks (i + 1)
  | _ :: _, [], _ => False
theorem PRsC.at_ {P : Program} {l : List Oper} {n : Nat} {E : List (Nat × Value)} {S0 : World → Prop} {S : Nat → World → Prop} {St : World → World → Prop} {Φ : Nat → Value → World → Prop} {Q : Exit → Act → World → Prop} :
    ∀ {os : List Oper} {ks : List (Option Nat)} {k i : Nat} {o : Oper}, PRsC P l n E S0 S St Φ Q os ks k → os[i]? = some o →
      (ks.getD i none = none ∧ ∀ (w : World) (D : Nat → Value), S0 w → DepFacts Φ D w (onsOf o) → DG P l.toArray o n (depEnv l D E (onsOf o)) w (fun v w' => BX No w w' ∧ Φ (k + i) v w') Q) ∨
      ∃ c, ks.getD i none = some c ∧ ∀ (w : World) (D : Nat → Value), S c w → DepFacts Φ D w (onsOf o) → DG P l.toArray o n (depEnv l D E (onsOf o)) w (fun v w' => (S (c + 1) w' ∧ St w w') ∧ Φ (k + i) v w') Q
  | [], _, _, _, _, _, h => by simp at h
  | p :: os, [], k, i, o, h, ho => h.elim
  | p :: os, none :: ks, k, 0, o, h, ho => by simp at ho; subst ho; exact .inl ⟨rfl, h.1⟩
  | p :: os, some c :: ks, k, 0, o, h, ho => by simp at ho; subst ho; exact .inr ⟨c, rfl, h.1⟩
  | p :: os, none :: ks, k, i + 1, o, h, ho => by
    have := PRsC.at_ h.2 (i := i) (o := o) (by simpa using ho)
    rw [show k + (i + 1) = k + 1 + i from by omega]
    exact this
  | p :: os, some c :: ks, k, i + 1, o, h, ho => by
    have := PRsC.at_ h.2 (i := i) (o := o) (by simpa using ho)
    rw [show k + (i + 1) = k + 1 + i from by omega]
    exact this
section
variable {P : Program} {Q : Exit → Act → World → Prop} {n : Nat} {E : List (Nat × Value)} {w : World} {l : List Oper} {m total : Nat} {kinds : List (Option Nat)}
def MonoY (Y : Nat → Prop) (p : Value → World → Prop) : Prop := ∀ v w w', BX Y w w' → p v w → p v w'
def MonoYL (Y : Nat → Prop) : List (Value → World → Prop) → Prop
  | [] => True
  | p :: ps => MonoY Y p ∧ MonoYL Y ps
theorem MonoYL.nth {Y : Nat → Prop} : ∀ {ps : List (Value → World → Prop)}, MonoYL Y ps → ∀ i v w w', BX Y w w' → nthP ps i v w → nthP ps i v w'
  | [], _, _, _, _, _, _, _ => trivial
  | _ :: _, h, 0, v, w, w', hb, hp => h.1 v w w' hb hp
  | _ :: _, h, i + 1, v, w, w', hb, hp => MonoYL.nth h.2 i v w w' hb hp
theorem BX.no_to {Y : Nat → Prop} {w w' : World} (h : BX No w w') : BX Y w w' := h.mono fun _ _ e => e.elim
end
end Go.PF
