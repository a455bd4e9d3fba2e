/- Plain laws of the program's small functions. -/
import Derived.Test.YtadlmencjbangaaDoorPFPlain
import Derived.Test.YtadlmencjbangaaDoorFun
namespace Go.PF.F
open Go Go.PF

/-! What an argument is, whatever it is. -/
/-! Sizes are counted. -/
def OkBox (b : Box) : Prop := b.Sides.length ≤ 9223372036854775807 ∧ ∀ x ∈ b.Sides, x.length ≤ 9223372036854775807
/-! A copy is what it copies. -/
/-! Equality. -/
theorem eq_list {α : Type} [DecidableEq α] {f : α → α → Option Bool} {body : Int → Option (SR Int Bool)} (xs ys : List α) (hn : xs.length ≤ 9223372036854775807) (hf : ∀ x ∈ xs, ∀ y ∈ ys, f x y = some (decide (x = y)))
    (hb : ∀ k, body k = bif (decide (k < (xs.length : Int))) then (idx xs k).bind fun x1 => (idx ys k).bind fun x2 => (f x1 x2).bind fun x3 => bif x3 then some (.nxt (W (k + 1))) else some (.ret false) else some (.brk k)) :
    (bif ((xs.length : Int) != (ys.length : Int)) then some false else (loopF body (((xs.length : Int)) - 0).toNat.succ 0).bind (fun lr => lr.on (fun _ => some true) (fun r => some r))) = some (decide (xs = ys)) := by
  by_cases h : ys.length = xs.length
  · rw [loop_eq xs ys h hn hf hb]
    simp [h]
  · have : xs ≠ ys := fun e => h (by rw [e])
    have h' : ((xs.length : Int) != (ys.length : Int)) = true := by simp; omega
    rw [h', decide_eq_false this]; rfl
end Go.PF.F
