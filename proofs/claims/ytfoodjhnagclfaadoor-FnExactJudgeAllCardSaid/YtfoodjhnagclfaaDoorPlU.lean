/- Plain laws: judging many packets. -/
import Derived.Test.YtfoodjhnagclfaaDoorPlS
namespace Go.PF.F
open Go Go.PF

theorem count_snoc' {α : Type} {a : List α} {k : Nat} {x : α} (h : a[k]? = some x) (q : α → Bool) : (a.take (k + 1)).countP q = (a.take k).countP q + if q x then 1 else 0 := by
  rw [take_snoc h, List.countP_append, List.countP_singleton]
theorem all_is {s : Ruleset} (hs : OkRs s) (xs : List Packet) (hl : xs.length ≤ 4294967296) : ∃ r, spec_JudgeAll s xs = some r ∧ impl_JudgeAll s xs = some r := by
  obtain ⟨v, e1, e2, hv⟩ := (spec_ruleset hs).same (impl_ruleset hs)
  obtain ⟨q, e3, hq⟩ : Dec (impl_packetsValid xs) ((∀ x ∈ xs, PV x) ∧ (xs.length : Int) ≤ 50) := Dec.le_all (body := impl_packetsValid_L0 xs) (by omega) (fun x _ => impl_packet x) (fun _ => rfl)
  obtain ⟨o, ho, hq2⟩ := loop_idx (body := spec_JudgeAll_L0 s xs) xs.length
    (fun k st => st = ((((xs.take k).countP fun p => v && judgeB s p : Nat) : Int), (k : Int)) ∧ ∀ (j : Nat) p, j < k → xs[j]? = some p → PV p)
    (fun o => (o = .brk (((xs.countP fun p => v && judgeB s p : Nat) : Int), (xs.length : Int)) ∧ ∀ x ∈ xs, PV x) ∨ (o = .ret (-1) ∧ ¬ ∀ x ∈ xs, PV x)) (s := (0, 0)) ⟨rfl, fun j p h => by omega⟩
    (fun k st hk ⟨h1, h2⟩ => by
      subst h1
      obtain ⟨w, ew, hw⟩ := spec_packet xs[k]
      have hx : xs[k]? = some xs[k] := List.getElem?_eq_getElem hk
      unfold spec_JudgeAll_L0
      simp only [lt_true (show (k : Int) < (xs.length : Int) by omega), cond_true, idx_get hk, Option.bind_some, ew, W_succ (show k < 9223372036854775807 by omega)]
      cases w with
      | false => exact .inr (.inl ⟨_, rfl, .inr ⟨rfl, fun h => by simpa using hw.2 (h _ (List.getElem_mem hk))⟩⟩)
      | true =>
        have hp := hw.1 rfl
        obtain ⟨r, er, r1, r2⟩ := spec_jv hs xs[k]
        have hr : r = (v && judgeB s xs[k]) := by
          cases v with
          | true => rw [r1 (hv.1 rfl) hp, Bool.true_and]
          | false => rw [r2 fun h => by simpa using hv.2 h.1, Bool.false_and]
        have hc : (xs.take k).countP (fun p => v && judgeB s p) ≤ k := Nat.le_trans List.countP_le_length (by simp; omega)
        have hj : ∀ (j : Nat) p, j < k + 1 → xs[j]? = some p → PV p := fun j p hj hx' => by
          by_cases e : j = k
          · subst e
            rw [hx] at hx'
            rw [← Option.some.inj hx']; exact hp
          · exact h2 j p (by omega) hx'
        rw [cond_true, er, Option.bind_some]
        cases r with
        | true =>
          refine .inl ⟨_, rfl, ?_, hj⟩
          rw [W_succ (by omega), count_snoc' hx]
          simp only [← hr, if_true]
        | false =>
          refine .inl ⟨_, rfl, ?_, hj⟩
          rw [count_snoc' hx]
          simp only [← hr]
          rfl)
    (fun st ⟨h1, h2⟩ => by
      subst h1
      rw [List.take_length]
      refine .inl ⟨_, ?_, .inl ⟨rfl, fun x hx => ?_⟩⟩
      · unfold spec_JudgeAll_L0
        simp only [lt_false (Int.le_refl _), cond_false]
      · obtain ⟨j, hj⟩ := List.mem_iff_getElem?.1 hx
        exact h2 j x (List.getElem?_eq_some_iff.1 hj).1 hj)
  unfold spec_JudgeAll impl_JudgeAll
  rw [ho, e2, Option.bind_some, Option.bind_some]
  cases v with
  | false =>
    refine ⟨-1, ?_, rfl⟩
    rcases hq2 with ⟨rfl, _⟩ | ⟨rfl, _⟩
    · simp only [LR.on, e1, Option.bind_some, cond_false]
    · rfl
  | true =>
    rw [cond_true, e3, Option.bind_some]
    rcases hq2 with ⟨rfl, hall⟩ | ⟨rfl, hno⟩
    · simp only [LR.on, e1, Option.bind_some, cond_true]
      by_cases h50 : (xs.length : Int) ≤ 50
      · have : q = true := hq.2 ⟨hall, h50⟩
        subst this
        refine ⟨((xs.countP fun p => judgeB s p : Nat) : Int), ?_, ?_⟩
        · rw [decide_eq_false (by omega : ¬ (50 : Int) < (xs.length : Int))]
          simp only [Bool.true_and, cond_false]
        · rw [cond_true]
          have e : loopF (impl_JudgeAll_L0 s xs) (((xs.length : Int)) - 0).toNat.succ (0, 0) = some (.brk (((xs.countP fun p => judgeB s p : Nat) : Int), (xs.length : Int))) :=
            loop_brk (body := impl_JudgeAll_L0 s xs) xs.length (fun k : Nat => ((((xs.take k).countP fun p => judgeB s p : Nat) : Int), (k : Int))) _ (fun k hk => by
              have hx : xs[k]? = some xs[k] := List.getElem?_eq_getElem hk
              have hc : (xs.take k).countP (fun p => judgeB s p) ≤ k := Nat.le_trans List.countP_le_length (by simp; omega)
              unfold impl_JudgeAll_L0
              simp only [lt_true (show (k : Int) < (xs.length : Int) by omega), cond_true, idx_get hk, Option.bind_some, impl_jv (hv.1 rfl), W_succ (show k < 9223372036854775807 by omega)]
              rw [count_snoc' hx]
              cases hj : judgeB s xs[k] with
              | true => rw [cond_true, W_succ (by omega)]; rfl
              | false => rfl) (by
              unfold impl_JudgeAll_L0
              simp only [lt_false (Int.le_refl _), cond_false, List.take_length]) (by omega)
          rw [e]; rfl
      · have : q = false := by rw [Bool.eq_false_iff]; exact fun h => h50 (hq.1 h).2
        subst this
        refine ⟨-1, ?_, rfl⟩
        rw [decide_eq_true (by omega : (50 : Int) < (xs.length : Int))]; rfl
    · have : q = false := by rw [Bool.eq_false_iff]; exact fun h => hno (hq.1 h).1
      subst this
      exact ⟨-1, rfl, rfl⟩
theorem plain_FnExactJudgeAll (a : Ruleset) (b : List Packet) (ga : G_Ruleset a) (gb : GAll G_Packet b) : laws_FnExactJudgeAll a b = some true := by
  have ha := rs_of_G ga
  have hbl := gb.1
  unfold laws_FnExactJudgeAll
  rw [sz_Rs (by decide) (by decide) ha, Option.bind_some]
  by_cases hs : wRs a ≤ 1048576
  · have hl : 0 ≤ leftOf 1048576 (wRs a) ∧ leftOf 1048576 (wRs a) ≤ 1048576 := by
      unfold leftOf; split <;> omega
    rw [left_pos hs, cond_false, show laws_szPacketS b (leftOf 1048576 (wRs a)) = some (leftOf (leftOf 1048576 (wRs a)) b.length) from sz_leaf b _ hl.1 hl.2 hbl, Option.bind_some]
    by_cases hs2 : (b.length : Int) ≤ leftOf 1048576 (wRs a)
    · have hp : decide (leftOf (leftOf 1048576 (wRs a)) b.length < 0) = false := decide_eq_false (by
        generalize leftOf 1048576 (wRs a) = l at *
        unfold leftOf; split <;> omega)
      obtain ⟨r, e1, e2⟩ := all_is ha b (by omega)
      rw [hp, cond_false, to_Rs (sm_Rs hs), Option.bind_some, to_PacketS (by omega), Option.bind_some]
      simp only [Option.bind_some, e1, e2, eq_Rs _ ha, eq_PacketS b hbl]
      simp
    · have hp : decide (leftOf (leftOf 1048576 (wRs a)) b.length < 0) = true := decide_eq_true (by
        generalize leftOf 1048576 (wRs a) = l at *
        unfold leftOf; split <;> omega)
      rw [hp]; rfl
  · rw [left_neg hs]; rfl
end Go.PF.F
