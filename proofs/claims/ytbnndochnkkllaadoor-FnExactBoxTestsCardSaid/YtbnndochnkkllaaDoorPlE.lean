/- Plain laws: a box's first packet. -/
import Derived.Test.YtbnndochnkkllaaDoorPlD
namespace Go.PF.F
open Go Go.PF

def firstOf : List Span → Int × Bool
  | [] => (0, false)
  | x :: _ => (x.Lo, true)
theorem first_self {xs : List Span} {top : Int} (h : SVP xs top) : impl_firstCommon xs xs = some (firstOf xs) := by
  unfold impl_firstCommon
  cases xs with
  | nil => rfl
  | cons x t =>
    have hx := h.2.2 0 x (by simp) rfl
    have e : impl_firstCommon_L0 (x :: t) (x :: t) (0, 0) = some (.ret (x.Lo, true)) := by
      unfold impl_firstCommon_L0
      have e0 : ((0 : Int) < ((x :: t).length : Int)) := by simp
      simp only [decide_eq_true e0, cond_true]
      rw [show idx (x :: t) 0 = some x from rfl]
      have e1 : imax x.Lo x.Lo = x.Lo := by unfold imax; split <;> rfl
      have e2 : imin x.Hi x.Hi = x.Hi := by unfold imin; split <;> rfl
      simp only [Option.bind_some, e1, e2, decide_eq_true hx.2.1, cond_true]
    rw [show ∀ n, loopF (impl_firstCommon_L0 (x :: t) (x :: t)) (Nat.succ n) (0, 0) = (impl_firstCommon_L0 (x :: t) (x :: t) (0, 0)).bind (SR.after (loopF (impl_firstCommon_L0 (x :: t) (x :: t)) n)) from fun _ => rfl, e]
    rfl
theorem w01 : W ((0 : Int) + 1) = 1 := rfl
theorem w12 : W ((1 : Int) + 1) = 2 := rfl
theorem w23 : W ((2 : Int) + 1) = 3 := rfl
theorem w34 : W ((3 : Int) + 1) = 4 := rfl
theorem four {α : Type} {xs : List α} (h : xs.length = 4) : ∃ a b c d, xs = [a, b, c, d] := by
  match xs, h with
  | [a, b, c, d], _ => exact ⟨a, b, c, d, rfl⟩
theorem spec_BoxFirst_is {b : Box} (hb : OkBox b) : ∃ r, spec_BoxFirst b = some r ∧ impl_BoxFirst b = some r := by
  obtain ⟨v, e1, e2, hv⟩ := (spec_box hb).same (impl_box hb)
  unfold spec_BoxFirst impl_BoxFirst
  rw [e1, e2]
  cases v with
  | false => exact ⟨_, rfl, rfl⟩
  | true =>
    have hv := hv.1 rfl
    rw [impl_sides hv.1]
    obtain ⟨q, e3, hq⟩ := spec_empty hb
    rw [e3]
    obtain ⟨a, b', c, d, hs⟩ := four hv.1
    have ha := first_self (hv.2 0 a (by rw [hs]; rfl))
    have hb' := first_self (hv.2 1 b' (by rw [hs]; rfl))
    have hc := first_self (hv.2 2 c (by rw [hs]; rfl))
    have hd := first_self (hv.2 3 d (by rw [hs]; rfl))
    have i0 : ∀ {α : Type} (a b c d : α), idx [a, b, c, d] 0 = some a := fun _ _ _ _ => rfl
    have i1 : ∀ {α : Type} (a b c d : α), idx [a, b, c, d] 1 = some b := fun _ _ _ _ => rfl
    have i2 : ∀ {α : Type} (a b c d : α), idx [a, b, c, d] 2 = some c := fun _ _ _ _ => rfl
    have i3 : ∀ {α : Type} (a b c d : α), idx [a, b, c, d] 3 = some d := fun _ _ _ _ => rfl
    unfold BE at hq
    rw [hs] at hq ⊢
    simp only [Option.bind_some, cond_true]
    unfold impl_sides_firstCommon spec_l10First
    rw [hs]
    rw [show loopF (impl_sides_firstCommon_L0 [a, b', c, d] [a, b', c, d]) (4 - (0 : Int)).toNat.succ (0, 0, 0, 0, 0, [0, 0, 0, 0]) = (impl_sides_firstCommon_L0 [a, b', c, d] [a, b', c, d] (0, 0, 0, 0, 0, [0, 0, 0, 0])).bind (SR.after (loopF (impl_sides_firstCommon_L0 [a, b', c, d] [a, b', c, d]) 4)) from rfl]
    rw [show impl_sides_firstCommon_L0 [a, b', c, d] [a, b', c, d] (0, 0, 0, 0, 0, [0, 0, 0, 0]) = bif (firstOf a).2 then some (.nxt (1, 0, 0, 0, 0, [(firstOf a).1, 0, 0, 0])) else some (.ret (({ From := 0, To := 0, Port := 0, Proto := 0 } : Packet), false)) from (by show (impl_firstCommon a a).bind _ = _; rw [ha]; rfl)]
    cases a with
    | nil =>
      obtain rfl : q = true := hq.2 ⟨[], by simp, rfl⟩
      exact ⟨_, rfl, rfl⟩
    | cons x0 t0 =>
    rw [show (firstOf (x0 :: t0)) = (x0.Lo, true) from rfl]
    simp only [cond_true, Option.bind_some, SR.after]
    rw [show loopF (impl_sides_firstCommon_L0 [x0 :: t0, b', c, d] [x0 :: t0, b', c, d]) 4 (1, 0, 0, 0, 0, [x0.Lo, 0, 0, 0]) = (impl_sides_firstCommon_L0 [x0 :: t0, b', c, d] [x0 :: t0, b', c, d] (1, 0, 0, 0, 0, [x0.Lo, 0, 0, 0])).bind (SR.after (loopF (impl_sides_firstCommon_L0 [x0 :: t0, b', c, d] [x0 :: t0, b', c, d]) 3)) from rfl]
    rw [show impl_sides_firstCommon_L0 [x0 :: t0, b', c, d] [x0 :: t0, b', c, d] (1, 0, 0, 0, 0, [x0.Lo, 0, 0, 0]) = bif (firstOf b').2 then some (.nxt (2, 0, 0, 0, 0, [x0.Lo, (firstOf b').1, 0, 0])) else some (.ret (({ From := 0, To := 0, Port := 0, Proto := 0 } : Packet), false)) from (by show (impl_firstCommon b' b').bind _ = _; rw [hb']; rfl)]
    cases b' with
    | nil =>
      obtain rfl : q = true := hq.2 ⟨[], by simp, rfl⟩
      exact ⟨_, rfl, rfl⟩
    | cons x1 t1 =>
    rw [show (firstOf (x1 :: t1)) = (x1.Lo, true) from rfl]
    simp only [cond_true, Option.bind_some, SR.after]
    rw [show loopF (impl_sides_firstCommon_L0 [x0 :: t0, x1 :: t1, c, d] [x0 :: t0, x1 :: t1, c, d]) 3 (2, 0, 0, 0, 0, [x0.Lo, x1.Lo, 0, 0]) = (impl_sides_firstCommon_L0 [x0 :: t0, x1 :: t1, c, d] [x0 :: t0, x1 :: t1, c, d] (2, 0, 0, 0, 0, [x0.Lo, x1.Lo, 0, 0])).bind (SR.after (loopF (impl_sides_firstCommon_L0 [x0 :: t0, x1 :: t1, c, d] [x0 :: t0, x1 :: t1, c, d]) 2)) from rfl]
    rw [show impl_sides_firstCommon_L0 [x0 :: t0, x1 :: t1, c, d] [x0 :: t0, x1 :: t1, c, d] (2, 0, 0, 0, 0, [x0.Lo, x1.Lo, 0, 0]) = bif (firstOf c).2 then some (.nxt (3, 0, 0, 0, 0, [x0.Lo, x1.Lo, (firstOf c).1, 0])) else some (.ret (({ From := 0, To := 0, Port := 0, Proto := 0 } : Packet), false)) from (by show (impl_firstCommon c c).bind _ = _; rw [hc]; rfl)]
    cases c with
    | nil =>
      obtain rfl : q = true := hq.2 ⟨[], by simp, rfl⟩
      exact ⟨_, rfl, rfl⟩
    | cons x2 t2 =>
    rw [show (firstOf (x2 :: t2)) = (x2.Lo, true) from rfl]
    simp only [cond_true, Option.bind_some, SR.after]
    rw [show loopF (impl_sides_firstCommon_L0 [x0 :: t0, x1 :: t1, x2 :: t2, d] [x0 :: t0, x1 :: t1, x2 :: t2, d]) 2 (3, 0, 0, 0, 0, [x0.Lo, x1.Lo, x2.Lo, 0]) = (impl_sides_firstCommon_L0 [x0 :: t0, x1 :: t1, x2 :: t2, d] [x0 :: t0, x1 :: t1, x2 :: t2, d] (3, 0, 0, 0, 0, [x0.Lo, x1.Lo, x2.Lo, 0])).bind (SR.after (loopF (impl_sides_firstCommon_L0 [x0 :: t0, x1 :: t1, x2 :: t2, d] [x0 :: t0, x1 :: t1, x2 :: t2, d]) 1)) from rfl]
    rw [show impl_sides_firstCommon_L0 [x0 :: t0, x1 :: t1, x2 :: t2, d] [x0 :: t0, x1 :: t1, x2 :: t2, d] (3, 0, 0, 0, 0, [x0.Lo, x1.Lo, x2.Lo, 0]) = bif (firstOf d).2 then some (.nxt (4, 0, 0, 0, 0, [x0.Lo, x1.Lo, x2.Lo, (firstOf d).1])) else some (.ret (({ From := 0, To := 0, Port := 0, Proto := 0 } : Packet), false)) from (by show (impl_firstCommon d d).bind _ = _; rw [hd]; rfl)]
    cases d with
    | nil =>
      obtain rfl : q = true := hq.2 ⟨[], by simp, rfl⟩
      exact ⟨_, rfl, rfl⟩
    | cons x3 t3 =>
      obtain rfl : q = false := by
        cases q with
        | false => rfl
        | true =>
          obtain ⟨x, hx, e⟩ := hq.1 rfl
          simp at hx
          rcases hx with h | h | h | h <;> rw [e] at h <;> cases h
      exact ⟨_, rfl, rfl⟩
theorem plain_FnExactBoxFirst (a : Box) (ga : G_Box a) : laws_FnExactBoxFirst a = some true := by
  have ha := ok_of_G ga
  unfold laws_FnExactBoxFirst
  rw [sz_Box (by decide) (by decide) ha, Option.bind_some]
  by_cases hs : wBox a ≤ 1048576
  · have hm := sm_Box hs
    obtain ⟨r, e1, e2⟩ := spec_BoxFirst_is ha
    rw [left_pos hs, to_Box hm]
    simp only [cond_false, Option.bind_some, e1, e2, eq_Box _ _ ha, eq_Packet]
    simp
  · rw [left_neg hs]; rfl
end Go.PF.F
