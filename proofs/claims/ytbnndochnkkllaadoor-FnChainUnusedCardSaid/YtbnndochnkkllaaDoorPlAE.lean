/- Plain laws: called chains, used chains. -/
import Derived.Test.YtbnndochnkkllaaDoorPlAD
namespace Go.PF.F
open Go Go.PF

/-! Called chains. -/
theorem castL_snoc (xs : List Nat) (d : Nat) : castL xs ++ [(d : Int)] = castL (xs ++ [d]) := by unfold castL; rw [List.map_append]; rfl
theorem filter_snoc (q : Nat → Bool) (k : Nat) : (List.range (k + 1)).filter q = (List.range k).filter q ++ (if q k then [k] else []) := by
  rw [List.range_succ, List.filter_append]
  congr 1
  cases h : q k <;> simp [h]
theorem filter_len (q : Nat → Bool) (k : Nat) : ((List.range k).filter q).length ≤ k := by
  have := List.length_filter_le q (List.range k)
  rwa [List.length_range] at this
/-! Used chains. -/
def usedB (cs : List (List Rule)) (x : Nat) : Bool := (roundsU cs cs.length).contains x
def usedN (cs : List (List Rule)) : List Nat := (List.range cs.length).filter (usedB cs)
theorem usedB_iff {cs : List (List Rule)} (hb : CB cs) {x : Nat} : usedB cs x = true ↔ Reach cs 0 x := by
  unfold usedB; rw [List.contains_iff_mem]; exact roundsU_all hb x
theorem usedN_mem {cs : List (List Rule)} (hb : CB cs) {x : Nat} : x ∈ usedN cs ↔ Reach cs 0 x := by
  unfold usedN
  rw [List.mem_filter, usedB_iff hb, List.mem_range]
  exact ⟨fun h => h.2, fun h => ⟨h.lt hb hb.n1, h⟩⟩
theorem usedN_len {cs : List (List Rule)} : (usedN cs).length ≤ cs.length := filter_len _ _
theorem addR_app (o : List Nat) (a b : List Rule) : addR o (a ++ b) = addR (addR o a) b := by unfold addR; rw [List.foldl_append]
theorem used_inner {s : Ruleset} (hb : CB s.Chains) {c : Nat} (hc : c < s.Chains.length) (o : List Nat) (y : List Int) :
    ∃ k, loopF (spec_ChainsUsed_L2 s (c : Int)) ((((ch s.Chains c).length : Int)) - 0).toNat.succ (0, y, doneL s.Chains.length o) = some (.brk (k, y, doneL s.Chains.length (stepU s.Chains o c))) := by
  have hrv := hb.rv _ (ch_mem hc)
  have hl := hrv.2
  unfold stepU
  by_cases ho : c ∈ o
  · rw [if_pos ho]
    refine ⟨((ch s.Chains c).length : Int), loop_brk0 (body := spec_ChainsUsed_L2 s (c : Int)) (ch s.Chains c).length (fun k : Nat => ((k : Int), y, doneL s.Chains.length (addR o ((ch s.Chains c).take k)))) rfl (fun k hk => ?_) ?_ (by omega)⟩
    · have hm := List.getElem_mem hk
      have hch := hrv.chain hm
      have hlt := hb.lt _ (ch_mem hc) _ hm
      obtain ⟨d, hd⟩ := Int.eq_ofNat_of_zero_le hch.1
      have hin : c ∈ addR o ((ch s.Chains c).take k) := (addR_mem _ (fun r hr => (hrv.chain (List.mem_of_mem_take hr)).1) o c).2 (.inl ho)
      unfold spec_ChainsUsed_L2
      simp only [ch_idx hc, Option.bind_some, lt_true (show (k : Int) < ((ch s.Chains c).length : Int) by omega), cond_true, done_idx hc, List.contains_iff_mem.2 hin, idx_get hk, W_succ (show k < 9223372036854775807 by omega)]
      rw [take_snoc (List.getElem?_eq_getElem hk), addR_app]
      by_cases ha : (ch s.Chains c)[k].Action = 3
      · rw [(by simp [ha] : ((ch s.Chains c)[k].Action == 3) = true), cond_true, hd, done_idx (by omega), Option.bind_some, Int.toNat_natCast, done_set (by omega)]
        unfold addR
        simp [ha, hd]
      · rw [(by simp [ha] : ((ch s.Chains c)[k].Action == 3) = false), cond_false]
        unfold addR
        simp [ha]
    · unfold spec_ChainsUsed_L2
      simp only [ch_idx hc, Option.bind_some, lt_false (Int.le_refl _), cond_false, List.take_length]
  · rw [if_neg ho]
    refine ⟨0, ?_⟩
    have hn : o.contains c = false := by rw [Bool.eq_false_iff]; exact fun h => ho (List.contains_iff_mem.1 h)
    have e : spec_ChainsUsed_L2 s (c : Int) (0, y, doneL s.Chains.length o) = some (.brk (0, y, doneL s.Chains.length o)) := by
      unfold spec_ChainsUsed_L2
      simp only [ch_idx hc, Option.bind_some, done_idx hc, hn]
      cases decide ((0 : Int) < ((ch s.Chains c).length : Int)) <;> rfl
    unfold loopF
    rw [e]; rfl
theorem spec_used {s : Ruleset} (hb : CB s.Chains) (hv : spec_RulesetValid s = some true) : spec_ChainsUsed s = some (castL (usedN s.Chains)) := by
  have h1 := hb.n1
  have h5 := hb.n5
  unfold spec_ChainsUsed
  have e0 : List.replicate s.Chains.length false = doneL s.Chains.length [] := by simp [doneL, List.map_const']
  rw [hv, Option.bind_some, cond_true, make_len (by omega), Option.bind_some, e0, show (0 : Int) = ((0 : Nat) : Int) from rfl, done_idx h1, Option.bind_some]
  simp only [Int.toNat_natCast, done_set h1, List.nil_append]
  have eL1 : ∀ (o : List Nat) (y : List Int), loopF (spec_ChainsUsed_L1 s) ((((s.Chains.length : Int)) - 0).toNat.succ) (0, y, doneL s.Chains.length o) = some (.brk ((s.Chains.length : Int), y, doneL s.Chains.length (roundU s.Chains o))) := fun o y => by
    refine loop_brk0 (body := spec_ChainsUsed_L1 s) s.Chains.length (fun k : Nat => ((k : Int), y, doneL s.Chains.length ((List.range k).foldl (stepU s.Chains) o))) rfl (fun k hk => ?_) ?_ (by omega)
    · obtain ⟨k', e⟩ := used_inner hb hk ((List.range k).foldl (stepU s.Chains) o) y
      unfold spec_ChainsUsed_L1
      simp only [lt_true (show (k : Int) < (s.Chains.length : Int) by omega), cond_true, ch_idx hk, Option.getD_some, e, Option.bind_some, LR.on, W_succ (show k < 9223372036854775807 by omega)]
      rw [List.range_succ, List.foldl_append]; rfl
    · unfold spec_ChainsUsed_L1
      simp only [lt_false (Int.le_refl _), cond_false]; rfl
  have eL0 : loopF (spec_ChainsUsed_L0 s) ((((s.Chains.length : Int)) - 0).toNat.succ) (0, [], doneL s.Chains.length [0]) = some (.brk ((s.Chains.length : Int), [], doneL s.Chains.length (roundsU s.Chains s.Chains.length))) := by
    refine loop_brk0 (body := spec_ChainsUsed_L0 s) s.Chains.length (fun k : Nat => ((k : Int), [], doneL s.Chains.length (roundsU s.Chains k))) rfl (fun k hk => ?_) ?_ (by omega)
    · unfold spec_ChainsUsed_L0
      simp only [lt_true (show (k : Int) < (s.Chains.length : Int) by omega), cond_true, eL1, Option.bind_some, LR.on, W_succ (show k < 9223372036854775807 by omega), roundsU_succ]
    · unfold spec_ChainsUsed_L0
      simp only [lt_false (Int.le_refl _), cond_false]
  have eL3 : loopF (spec_ChainsUsed_L3 s) ((((s.Chains.length : Int)) - 0).toNat.succ) ([], 0, doneL s.Chains.length (roundsU s.Chains s.Chains.length)) = some (.brk (castL (usedN s.Chains), (s.Chains.length : Int), doneL s.Chains.length (roundsU s.Chains s.Chains.length))) := by
    refine loop_brk0 (body := spec_ChainsUsed_L3 s) s.Chains.length (fun k : Nat => (castL ((List.range k).filter (usedB s.Chains)), (k : Int), doneL s.Chains.length (roundsU s.Chains s.Chains.length))) rfl (fun k hk => ?_) ?_ (by omega)
    · have hf := filter_len (usedB s.Chains) k
      unfold spec_ChainsUsed_L3
      simp only [lt_true (show (k : Int) < (s.Chains.length : Int) by omega), cond_true, done_idx hk, Option.bind_some, W_succ (show k < 9223372036854775807 by omega)]
      rw [filter_snoc, show (roundsU s.Chains s.Chains.length).contains k = usedB s.Chains k from rfl]
      cases usedB s.Chains k with
      | true => rw [cond_true, app_ok (by rw [castL_len]; simp; omega), Option.bind_some, castL_snoc]; rfl
      | false => simp
    · unfold spec_ChainsUsed_L3
      simp only [lt_false (Int.le_refl _), cond_false]; rfl
  simp only [Int.natCast_zero]
  rw [eL0, Option.bind_some]
  simp only [LR.on]
  rw [eL3]; rfl
theorem impl_used {s : Ruleset} (hb : CB s.Chains) (hv : impl_RulesetValid s = some true) : impl_ChainsUsed s = some (castL (usedN s.Chains)) := by
  have h5 := hb.n5
  unfold impl_ChainsUsed
  obtain ⟨b, col, e, hcl, hcol⟩ := visit_all hb
  have e' : impl_visitCalls 10 s.Chains 0 [0, 0, 0, 0, 0] = some (b, col) := e
  rw [hv, Option.bind_some, cond_true, e', Option.bind_some]
  have eo : loopF (impl_ChainsUsed_L0 (b, col)) (((5 : Int) - 0).toNat.succ) ([], 0) = some (.brk (castL ((List.range 5).filter (usedB s.Chains)), 5)) := by
    refine loop_brk0 (body := impl_ChainsUsed_L0 (b, col)) 5 (fun k : Nat => (castL ((List.range k).filter (usedB s.Chains)), (k : Int))) rfl (fun k hk => ?_) ?_ (by decide)
    · have hf := filter_len (usedB s.Chains) k
      obtain ⟨v, hv, hu⟩ := hcol k hk
      unfold impl_ChainsUsed_L0
      simp only [lt_true (show (k : Int) < 5 by omega), cond_true, idx_nat, hv, Option.bind_some, W_succ (show k < 9223372036854775807 by omega)]
      rw [filter_snoc]
      by_cases h0 : v = 0
      · have : usedB s.Chains k = false := by rw [Bool.eq_false_iff]; exact fun h => hu.2 ((usedB_iff hb).1 h) h0
        rw [this, (by simp [h0] : (v != 0) = false)]; simp
      · have : usedB s.Chains k = true := (usedB_iff hb).2 (hu.1 h0)
        rw [this, (by simp [h0] : (v != 0) = true), cond_true, app_ok (by rw [castL_len]; simp; omega), Option.bind_some, castL_snoc]; rfl
    · unfold impl_ChainsUsed_L0
      rfl
  rw [eo, Option.bind_some]
  simp only [LR.on]
  unfold usedN
  rw [filter_range (fun x hx => ((usedB_iff hb).1 hx).lt hb hb.n1) 5 h5]
theorem used_is {s : Ruleset} (hs : OkRs s) : ∃ r, spec_ChainsUsed s = some r ∧ impl_ChainsUsed s = some r ∧ (RSV s → r = castL (usedN s.Chains)) ∧ (¬ RSV s → r = []) := by
  obtain ⟨v, e1, e2, hv⟩ := (spec_ruleset hs).same (impl_ruleset hs)
  cases v with
  | true =>
    have hr := hv.1 rfl
    exact ⟨_, spec_used hr.1 e1, impl_used hr.1 e2, fun _ => rfl, fun h => absurd hr h⟩
  | false =>
    refine ⟨[], ?_, ?_, fun h => by simpa using hv.2 h, fun _ => rfl⟩
    · unfold spec_ChainsUsed; rw [e1]; rfl
    · unfold impl_ChainsUsed; rw [e2]; rfl
end Go.PF.F
