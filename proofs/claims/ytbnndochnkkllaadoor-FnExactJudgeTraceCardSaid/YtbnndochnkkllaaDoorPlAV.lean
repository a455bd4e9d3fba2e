import Derived.Test.YtbnndochnkkllaaDoorPlY
import Derived.Test.YtbnndochnkkllaaDoorPlAQ
/- Plain laws: boxes of any size, and rows of rows that are written over; ExactBoxMeet, ExactTestsBox, ExactBoxCut, ExactRegionLess, ExactFlatBoxes. -/
namespace Go.PF.F
open Go Go.PF

/-! Rows of rows that are written over. -/
/-! Bounds. -/
end Go.PF.F

/- Plain laws: ExactBoxMeet, ExactTestsBox, ExactBoxCut, ExactRegionLess, ExactFlatBoxes. -/
namespace Go.PF.F
open Go Go.PF

end Go.PF.F

/- Plain laws: ExactJudgeTrace, ExactBoxAll. -/
namespace Go.PF.F
open Go Go.PF

def fVisit : Nat → Visit → Visit := fun k _ => { Chain := (k : Int), Place := ((k + 1 : Nat) : Int) }
theorem mark_visits (xs : List Visit) (h : 1 + 2 * xs.length ≤ 4611686018427387904) : laws_markVisitS_r xs 1 = some (((1 + 2 * xs.length : Nat) : Int), markL fVisit 2 1 xs) := by
  unfold laws_markVisitS_r
  have := mark_own (f := fVisit) (c := 2) xs (body := laws_markVisitS_r_L0) 1 (by omega) (fun k j ys hj hl hk => by
    unfold laws_markVisitS_r_L0
    simp only [lt_true (show (j : Int) < (ys.length : Int) by omega), cond_true, idx_get hj, Option.bind_some, Int.toNat_natCast, idx_set hj, List.set_set]
    rw [W_k (k := k) (by omega), W_k (k := k + 1) (by omega), W_succ (show j < 9223372036854775807 by omega)]; rfl) (fun k ys hl => by
    unfold laws_markVisitS_r_L0
    simp only [hl, lt_false (Int.le_refl _), cond_false])
  have this' : loopF laws_markVisitS_r_L0 (((xs.length : Int)) - 0).toNat.succ ((1 : Int), 0, xs) = some _ := this
  rw [this']; rfl
theorem held_visits (xs : List Visit) (h : 1 + 2 * xs.length ≤ 4611686018427387904) : laws_heldVisitS (markL fVisit 2 1 xs) 1 = some (((1 + 2 * xs.length : Nat) : Int)) := by
  unfold laws_heldVisitS
  have hl := markL_len fVisit 2 1 xs
  have := held_gen (markL fVisit 2 1 xs) (body := laws_heldVisitS_L0 (markL fVisit 2 1 xs)) 2 1 (fun j hj => by
    have hj' : j < xs.length := by omega
    unfold laws_heldVisitS_L0
    simp only [lt_true (show (j : Int) < ((markL fVisit 2 1 xs).length : Int) by omega), cond_true, idx_get hj, Option.bind_some, markL_get fVisit 2 1 xs j hj']
    rw [W_k (k := 1 + 2 * j) (by omega), W_k (k := 1 + 2 * j + 1) (by omega), W_succ (show j < 9223372036854775807 by omega)]
    simp only [fVisit, bne_self_eq_false, cond_false]) (fun k => by
    unfold laws_heldVisitS_L0
    simp only [lt_false (Int.le_refl _), cond_false])
  have this' : loopF (laws_heldVisitS_L0 (markL fVisit 2 1 xs)) ((((markL fVisit 2 1 xs).length : Int)) - 0).toNat.succ ((1 : Int), 0) = some _ := this
  rw [this', hl]; rfl
theorem eq_visit (x y : Visit) : laws_eqVisit x y = some (decide (x = y)) := by
  obtain ⟨a, b⟩ := x
  obtain ⟨c, d⟩ := y
  unfold laws_eqVisit
  simp only [Visit.mk.injEq]
  by_cases h1 : a = c <;> by_cases h2 : b = d <;> simp [bne_dec, h1, h2]
theorem eq_visits (xs : List Visit) (h : xs.length ≤ 9223372036854775807) : laws_eqVisitS xs xs = some true := by
  have e : laws_eqVisitS xs xs = some (decide (xs = xs)) := eq_list (body := laws_eqVisitS_L0 xs xs) xs xs h (fun x _ y _ => eq_visit x y) (fun _ => rfl)
  rw [e]; simp
theorem plain_FnExactJudgeTrace (a : Ruleset) (b : Packet) (ga : G_Ruleset a) (_gb : G_Packet b) : laws_FnExactJudgeTrace a b = some true := by
  have ha := rs_of_G ga
  unfold laws_FnExactJudgeTrace
  rw [sz_Rs (by decide) (by decide) ha, Option.bind_some]
  by_cases hs : wRs a ≤ 1048576
  · obtain ⟨t, e1, e2, h1, h2⟩ := trace_is ha b
    have hr : t.length ≤ 200 := by
      by_cases hall : RSV a ∧ PV b
      · rw [h1 hall.1 hall.2]; exact (judge_ok a b).2
      · rw [h2 hall]; simp
    obtain ⟨k, ek⟩ := mark_Rs hs
    have e2' : impl_JudgeTrace ({ Chains := a.Chains, Accept := a.Accept } : Ruleset) b = some t := e2
    have e3' : laws_eqRuleset ({ Chains := a.Chains, Accept := a.Accept } : Ruleset) a = some true := eq_Rs a ha
    rw [left_pos hs, cond_false, to_Rs (sm_Rs hs), Option.bind_some, to_Packet, Option.bind_some, e1, Option.bind_some, e2', Option.bind_some, eq_visits t (by omega), Option.bind_some, cond_true, e3', Option.bind_some, cond_true, ek, Option.bind_some, decide_eq_false (by omega : ¬ ((k : Int) < 0)), cond_false, mark_visits t (by omega), Option.bind_some, held_visits t (by omega), Option.bind_some, decide_eq_false (by omega : ¬ (((1 + 2 * t.length : Nat) : Int) < 0)), cond_false, bne_self_eq_false, cond_false, Option.bind_some, eq_visits t (by omega)]
    rfl
  · rw [left_neg hs]; rfl
end Go.PF.F
