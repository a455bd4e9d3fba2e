/- Plain laws: ExactBoxTests. -/
import Derived.Test.YtbnndochnkkllaaDoorPlAR
import Derived.Test.YtbnndochnkkllaaDoorPlAF
namespace Go.PF.F
open Go Go.PF

theorem mark_SpanS (xs : List Span) (k : Nat) (h : k + 2 * xs.length ≤ 4611686018427387904) : laws_markSpanS xs (k : Int) = some (((k + 2 * xs.length : Nat) : Int)) := by
  unfold laws_markSpanS
  rw [mark_gen xs (fun _ => 2) k (by rw [sum_const]; exact h) (fun k j hj hk => by
    unfold laws_markSpanS_L0
    simp only [lt_true (show (j : Int) < (xs.length : Int) by omega), cond_true, idx_get hj, Option.bind_some]
    rw [W_k (k := k) (by omega), W_k (k := k + 1) (by omega), W_succ (show j < 9223372036854775807 by omega)]) (fun k => by
    unfold laws_markSpanS_L0
    simp only [lt_false (Int.le_refl _), cond_false]), sum_const]
  rfl
def mkSS (xs : List (List Span)) : Nat := (xs.map fun s => 2 * s.length).sum
theorem mkSS_le (xs : List (List Span)) : mkSS xs ≤ 2 * wSpanSS xs := sum_le_wt (fun s => by unfold wSpanS; omega) xs
theorem mark_SpanSS (xs : List (List Span)) (hn : xs.length ≤ 4611686018427387904) (k : Nat) (h : k + mkSS xs ≤ 4611686018427387904) : laws_markSpanSS xs (k : Int) = some (((k + mkSS xs : Nat) : Int)) := by
  unfold laws_markSpanSS
  rw [mark_gen xs (fun s => 2 * s.length) k h (fun k j hj hk => by
    unfold laws_markSpanSS_L0
    simp only [lt_true (show (j : Int) < (xs.length : Int) by omega), cond_true, idx_get hj, Option.bind_some, mark_SpanS xs[j] k hk]
    rw [W_succ (show j < 9223372036854775807 by omega)]) (fun k => by
    unfold laws_markSpanSS_L0
    simp only [lt_false (Int.le_refl _), cond_false])]
  rfl
theorem mark_Box {b : Box} (h : wBox b ≤ 1048576) : ∃ k : Nat, laws_markBox b 1 = some (k : Int) := by
  have h1 := mkSS_le b.Sides
  have h2 : wSpanSS b.Sides ≤ 1048576 := h
  have hs := wtL_small h2
  have e := mark_SpanSS b.Sides (by omega) 1 (by omega)
  refine ⟨1 + mkSS b.Sides, ?_⟩
  unfold laws_markBox
  have e' : laws_markSpanSS b.Sides (1 : Int) = some _ := e
  rw [e']; rfl
def fTest : Nat → Test → Test := fun k _ => { Field := (k : Int), Lo := ((k + 1 : Nat) : Int), Hi := ((k + 1 + 1 : Nat) : Int), Not := ((((k + 1 + 1 + 1 : Nat) : Int)).tmod 3 == 0) }
theorem idx_set {α : Type} {xs : List α} {j : Nat} (h : j < xs.length) (x : α) : idx (xs.set j x) (j : Int) = some x := by
  rw [idx_get (by rw [List.length_set]; exact h), List.getElem_set_self]
theorem mark_tests (xs : List Test) (h : 1 + 4 * xs.length ≤ 4611686018427387904) : laws_markTestS_r xs 1 = some (((1 + 4 * xs.length : Nat) : Int), markL fTest 4 1 xs) := by
  unfold laws_markTestS_r
  have := mark_own (f := fTest) (c := 4) xs (body := laws_markTestS_r_L0) 1 (by omega) (fun k j ys hj hl hk => by
    unfold laws_markTestS_r_L0
    simp only [lt_true (show (j : Int) < (ys.length : Int) by omega), cond_true, idx_get hj, Option.bind_some, Int.toNat_natCast, idx_set hj, List.set_set]
    rw [W_k (k := k) (by omega), W_k (k := k + 1) (by omega), W_k (k := k + 1 + 1) (by omega), W_k (k := k + 1 + 1 + 1) (by omega), W_succ (show j < 9223372036854775807 by omega)]; rfl) (fun k ys hl => by
    unfold laws_markTestS_r_L0
    simp only [hl, lt_false (Int.le_refl _), cond_false])
  have this' : loopF laws_markTestS_r_L0 (((xs.length : Int)) - 0).toNat.succ ((1 : Int), 0, xs) = some _ := this
  rw [this']; rfl
theorem held_tests (xs : List Test) (h : 1 + 4 * xs.length ≤ 4611686018427387904) : laws_heldTestS (markL fTest 4 1 xs) 1 = some (((1 + 4 * xs.length : Nat) : Int)) := by
  unfold laws_heldTestS
  have hl := markL_len fTest 4 1 xs
  have := held_gen (markL fTest 4 1 xs) (body := laws_heldTestS_L0 (markL fTest 4 1 xs)) 4 1 (fun j hj => by
    have hj' : j < xs.length := by omega
    unfold laws_heldTestS_L0
    simp only [lt_true (show (j : Int) < ((markL fTest 4 1 xs).length : Int) by omega), cond_true, idx_get hj, Option.bind_some, markL_get fTest 4 1 xs j hj']
    rw [W_k (k := 1 + 4 * j) (by omega), W_k (k := 1 + 4 * j + 1) (by omega), W_k (k := 1 + 4 * j + 1 + 1) (by omega), W_k (k := 1 + 4 * j + 1 + 1 + 1) (by omega), W_succ (show j < 9223372036854775807 by omega)]
    simp only [fTest, bne_self_eq_false, cond_false]) (fun k => by
    unfold laws_heldTestS_L0
    simp only [lt_false (Int.le_refl _), cond_false])
  have this' : loopF (laws_heldTestS_L0 (markL fTest 4 1 xs)) ((((markL fTest 4 1 xs).length : Int)) - 0).toNat.succ ((1 : Int), 0) = some _ := this
  rw [this', hl]; rfl
theorem plain_FnExactBoxTests (a : Box) (ga : G_Box a) : laws_FnExactBoxTests a = some true := by
  have ha := ok_of_G ga
  unfold laws_FnExactBoxTests
  rw [sz_Box (by decide) (by decide) ha, Option.bind_some]
  by_cases hs : wBox a ≤ 1048576
  · obtain ⟨⟨r, t⟩, e1, e2, h1⟩ := boxtests_is ha
    have hr : r.length ≤ 1000 := by
      rcases h1 with h1 | ⟨hv, _, h1⟩
      · injection h1 with h1 _
        rw [h1]; simp
      · have h2 : r.length ≤ 4 := (boxT_BT (BV_iff.1 hv).1 (Nat.le_refl _) h1).len
        omega
    obtain ⟨k, ek⟩ := mark_Box hs
    have e2' : impl_BoxTests ({ Sides := a.Sides } : Box) = some (r, t) := e2
    have e3' : laws_eqBox ({ Sides := a.Sides } : Box) a = some true := by rw [eq_Box _ _ ha]; simp
    rw [left_pos hs, cond_false, to_Box (sm_Box hs), Option.bind_some, e1, Option.bind_some, e2', Option.bind_some, eq_TestS r r (by omega), decide_eq_true rfl, Option.bind_some, cond_true, bne_self_eq_false, cond_false, e3', Option.bind_some, cond_true, ek, Option.bind_some, decide_eq_false (by omega : ¬ ((k : Int) < 0)), cond_false, mark_tests r (by omega), Option.bind_some, held_tests r (by omega), Option.bind_some, decide_eq_false (by omega : ¬ (((1 + 4 * r.length : Nat) : Int) < 0)), cond_false, bne_self_eq_false, cond_false, Option.bind_some, eq_TestS r r (by omega), decide_eq_true rfl, Option.bind_some]
    simp
  · rw [left_neg hs]; rfl
end Go.PF.F
