/- Plain laws: called chains, used chains. -/
import Derived.Test.YtbnndochnkkllaaDoorPlAD
namespace Go.PF.F
open Go Go.PF

theorem same_ints (xs : List Int) (h : xs.length ≤ 9223372036854775807) : laws_sameInts xs xs = some true := by
  have := eq_list (f := fun x y => some (decide (x = y))) (body := laws_sameInts_L0 xs xs) xs xs h (fun _ _ _ _ => rfl) (fun k => ?_)
  · unfold laws_sameInts
    rw [this]; simp
  · unfold laws_sameInts_L0
    congr 1
    cases idx xs k with
    | none => rfl
    | some x => simp

/-! Called chains. -/
theorem calls_inner {s : Ruleset} (hb : CB s.Chains) {c : Nat} (hc : c < s.Chains.length) (d : Nat) (y : List Int) :
    loopF (spec_CallsOf_L1 s (c : Int) (d : Int)) ((((ch s.Chains c).length : Int)) - 0).toNat.succ (false, 0, y) = some (.brk (called (ch s.Chains c) d, ((ch s.Chains c).length : Int), y)) := by
  have hl := (hb.rv _ (ch_mem hc)).2
  refine loop_brk0 (body := spec_CallsOf_L1 s (c : Int) (d : Int)) (ch s.Chains c).length (fun k : Nat => (called ((ch s.Chains c).take k) d, (k : Int), y)) rfl (fun k hk => ?_) ?_ (by omega)
  · unfold spec_CallsOf_L1
    simp only [ch_idx hc, Option.bind_some, lt_true (show (k : Int) < ((ch s.Chains c).length : Int) by omega), cond_true, idx_get hk, W_succ (show k < 9223372036854775807 by omega)]
    rw [take_snoc (List.getElem?_eq_getElem hk), called_app]
    cases called ((ch s.Chains c).take k) d with
    | true => rfl
    | false =>
      rw [cond_false, Bool.false_or]
      by_cases ha : (ch s.Chains c)[k].Action = 3
      · rw [(by simp [ha] : ((ch s.Chains c)[k].Action == 3) = true), cond_true, Bool.true_and]
      · rw [(by simp [ha] : ((ch s.Chains c)[k].Action == 3) = false), cond_false, Bool.false_and]
  · unfold spec_CallsOf_L1
    simp only [ch_idx hc, Option.bind_some, lt_false (Int.le_refl _), cond_false, List.take_length]
theorem castL_snoc (xs : List Nat) (d : Nat) : castL xs ++ [(d : Int)] = castL (xs ++ [d]) := by unfold castL; rw [List.map_append]; rfl
theorem filter_snoc (q : Nat → Bool) (k : Nat) : (List.range (k + 1)).filter q = (List.range k).filter q ++ (if q k then [k] else []) := by
  rw [List.range_succ, List.filter_append]
  congr 1
  cases h : q k <;> simp [h]
theorem filter_len (q : Nat → Bool) (k : Nat) : ((List.range k).filter q).length ≤ k := by
  have := List.length_filter_le q (List.range k)
  rwa [List.length_range] at this
theorem calls_is {s : Ruleset} (hs : OkRs s) (a : Int) : ∃ r, spec_CallsOf s a = some r ∧ impl_CallsOf s a = some r ∧ (RSV s → 0 ≤ a → a < s.Chains.length → r = castL (callN (ch s.Chains a.toNat))) ∧ (¬ (RSV s ∧ 0 ≤ a ∧ a < s.Chains.length) → r = []) := by
  obtain ⟨v, e1, e2, hv⟩ := (spec_ruleset hs).same (impl_ruleset hs)
  have hl := hs.1
  by_cases hall : RSV s ∧ 0 ≤ a ∧ a < s.Chains.length
  · obtain ⟨hr, h0, h1⟩ := hall
    have hvt : v = true := hv.2 hr
    subst hvt
    have hb := hr.1
    have h5 := hb.n5
    obtain ⟨c, rfl⟩ := Int.eq_ofNat_of_zero_le h0
    have hc : c < s.Chains.length := by omega
    refine ⟨castL (callN (ch s.Chains c)), ?_, ?_, fun _ _ _ => rfl, fun h => absurd ⟨hr, h0, h1⟩ h⟩
    · unfold spec_CallsOf
      have e : loopF (spec_CallsOf_L0 s (c : Int)) ((((s.Chains.length : Int)) - 0).toNat.succ) ([], 0) = some (.brk (castL ((List.range s.Chains.length).filter (called (ch s.Chains c))), (s.Chains.length : Int))) := by
        refine loop_brk0 (body := spec_CallsOf_L0 s (c : Int)) s.Chains.length (fun k : Nat => (castL ((List.range k).filter (called (ch s.Chains c))), (k : Int))) rfl (fun k hk => ?_) ?_ (by omega)
        · have hf := filter_len (called (ch s.Chains c)) k
          unfold spec_CallsOf_L0
          simp only [lt_true (show (k : Int) < (s.Chains.length : Int) by omega), cond_true, e1, Option.bind_some, in_dec, ch_idx hc, Option.getD_some, calls_inner hb hc, LR.on, W_succ (show k < 9223372036854775807 by omega)]
          rw [W_of (by omega) (by omega), decide_eq_true (by omega : (0 : Int) ≤ (c : Int) ∧ (c : Int) ≤ (s.Chains.length : Int) - 1), cond_true, filter_snoc]
          cases called (ch s.Chains c) k with
          | true =>
            rw [cond_true, app_ok (by rw [castL_len]; simp; omega), Option.bind_some, castL_snoc]; rfl
          | false => simp
        · unfold spec_CallsOf_L0
          simp only [lt_false (Int.le_refl _), cond_false]
      rw [e, Option.bind_some, callN_range hb hc]; rfl
    · unfold impl_CallsOf
      rw [e2, Option.bind_some, cond_true, decide_eq_false (by omega : ¬ ((c : Int) < 0)), cond_false, decide_eq_false (by omega : ¬ ((s.Chains.length : Int) ≤ (c : Int))), cond_false, ch_idx hc, Option.bind_some, calls_in (hb.rv _ (ch_mem hc))]; rfl
  · refine ⟨[], ?_, ?_, fun hr h0 h1 => absurd ⟨hr, h0, h1⟩ hall, fun _ => rfl⟩
    · unfold spec_CallsOf
      have e : spec_CallsOf_L0 s a ([], 0) = some (.brk ([], 0)) := by
        unfold spec_CallsOf_L0
        simp only
        cases decide ((0 : Int) < (s.Chains.length : Int)) with
        | false => rfl
        | true =>
          rw [cond_true, e1, Option.bind_some]
          cases v with
          | false => rfl
          | true =>
            have hr := hv.1 rfl
            have h5 := hr.1.n5
            have h1 := hr.1.n1
            rw [cond_true, in_dec, Option.bind_some, W_of (by omega) (by omega), decide_eq_false (by intro h; exact hall ⟨hr, h.1, by omega⟩)]; rfl
      unfold loopF
      rw [e]; rfl
    · unfold impl_CallsOf
      rw [e2, Option.bind_some]
      cases v with
      | false => rfl
      | true =>
        have hr := hv.1 rfl
        rw [cond_true]
        by_cases h0 : a < 0
        · rw [decide_eq_true h0]; rfl
        · rw [decide_eq_false h0, cond_false, decide_eq_true (by
            rcases Int.lt_or_le a (s.Chains.length : Int) with h | h
            · exact absurd ⟨hr, by omega, h⟩ hall
            · exact h)]; rfl

/-! Used chains. -/
def usedB (cs : List (List Rule)) (x : Nat) : Bool := (roundsU cs cs.length).contains x
def usedN (cs : List (List Rule)) : List Nat := (List.range cs.length).filter (usedB cs)
theorem usedB_iff {cs : List (List Rule)} (hb : CB cs) {x : Nat} : usedB cs x = true ↔ Reach cs 0 x := by
  unfold usedB; rw [List.contains_iff_mem]; exact roundsU_all hb x
theorem usedN_mem {cs : List (List Rule)} (hb : CB cs) {x : Nat} : x ∈ usedN cs ↔ Reach cs 0 x := by
  unfold usedN
  rw [List.mem_filter, usedB_iff hb, List.mem_range]
  exact ⟨fun h => h.2, fun h => ⟨h.lt hb hb.n1, h⟩⟩
theorem usedN_len {cs : List (List Rule)} : (usedN cs).length ≤ cs.length := filter_len _ _
theorem addR_app (o : List Nat) (a b : List Rule) : addR o (a ++ b) = addR (addR o a) b := by unfold addR; rw [List.foldl_append]
theorem used_inner {s : Ruleset} (hb : CB s.Chains) {c : Nat} (hc : c < s.Chains.length) (o : List Nat) (y : List Int) :
    ∃ k, loopF (spec_ChainsUsed_L2 s (c : Int)) ((((ch s.Chains c).length : Int)) - 0).toNat.succ (0, y, doneL s.Chains.length o) = some (.brk (k, y, doneL s.Chains.length (stepU s.Chains o c))) := by
  have hrv := hb.rv _ (ch_mem hc)
  have hl := hrv.2
  unfold stepU
  by_cases ho : c ∈ o
  · rw [if_pos ho]
    refine ⟨((ch s.Chains c).length : Int), loop_brk0 (body := spec_ChainsUsed_L2 s (c : Int)) (ch s.Chains c).length (fun k : Nat => ((k : Int), y, doneL s.Chains.length (addR o ((ch s.Chains c).take k)))) rfl (fun k hk => ?_) ?_ (by omega)⟩
    · have hm := List.getElem_mem hk
      have hch := hrv.chain hm
      have hlt := hb.lt _ (ch_mem hc) _ hm
      obtain ⟨d, hd⟩ := Int.eq_ofNat_of_zero_le hch.1
      have hin : c ∈ addR o ((ch s.Chains c).take k) := (addR_mem _ (fun r hr => (hrv.chain (List.mem_of_mem_take hr)).1) o c).2 (.inl ho)
      unfold spec_ChainsUsed_L2
      simp only [ch_idx hc, Option.bind_some, lt_true (show (k : Int) < ((ch s.Chains c).length : Int) by omega), cond_true, done_idx hc, List.contains_iff_mem.2 hin, idx_get hk, W_succ (show k < 9223372036854775807 by omega)]
      rw [take_snoc (List.getElem?_eq_getElem hk), addR_app]
      by_cases ha : (ch s.Chains c)[k].Action = 3
      · rw [(by simp [ha] : ((ch s.Chains c)[k].Action == 3) = true), cond_true, hd, done_idx (by omega), Option.bind_some, Int.toNat_natCast, done_set (by omega)]
        unfold addR
        simp [ha, hd]
      · rw [(by simp [ha] : ((ch s.Chains c)[k].Action == 3) = false), cond_false]
        unfold addR
        simp [ha]
    · unfold spec_ChainsUsed_L2
      simp only [ch_idx hc, Option.bind_some, lt_false (Int.le_refl _), cond_false, List.take_length]
  · rw [if_neg ho]
    refine ⟨0, ?_⟩
    have hn : o.contains c = false := by rw [Bool.eq_false_iff]; exact fun h => ho (List.contains_iff_mem.1 h)
    have e : spec_ChainsUsed_L2 s (c : Int) (0, y, doneL s.Chains.length o) = some (.brk (0, y, doneL s.Chains.length o)) := by
      unfold spec_ChainsUsed_L2
      simp only [ch_idx hc, Option.bind_some, done_idx hc, hn]
      cases decide ((0 : Int) < ((ch s.Chains c).length : Int)) <;> rfl
    unfold loopF
    rw [e]; rfl
theorem spec_used {s : Ruleset} (hb : CB s.Chains) (hv : spec_RulesetValid s = some true) : spec_ChainsUsed s = some (castL (usedN s.Chains)) := by
  have h1 := hb.n1
  have h5 := hb.n5
  unfold spec_ChainsUsed
  have e0 : List.replicate s.Chains.length false = doneL s.Chains.length [] := by simp [doneL, List.map_const']
  rw [hv, Option.bind_some, cond_true, make_len (by omega), Option.bind_some, e0, show (0 : Int) = ((0 : Nat) : Int) from rfl, done_idx h1, Option.bind_some]
  simp only [Int.toNat_natCast, done_set h1, List.nil_append]
  have eL1 : ∀ (o : List Nat) (y : List Int), loopF (spec_ChainsUsed_L1 s) ((((s.Chains.length : Int)) - 0).toNat.succ) (0, y, doneL s.Chains.length o) = some (.brk ((s.Chains.length : Int), y, doneL s.Chains.length (roundU s.Chains o))) := fun o y => by
    refine loop_brk0 (body := spec_ChainsUsed_L1 s) s.Chains.length (fun k : Nat => ((k : Int), y, doneL s.Chains.length ((List.range k).foldl (stepU s.Chains) o))) rfl (fun k hk => ?_) ?_ (by omega)
    · obtain ⟨k', e⟩ := used_inner hb hk ((List.range k).foldl (stepU s.Chains) o) y
      unfold spec_ChainsUsed_L1
      simp only [lt_true (show (k : Int) < (s.Chains.length : Int) by omega), cond_true, ch_idx hk, Option.getD_some, e, Option.bind_some, LR.on, W_succ (show k < 9223372036854775807 by omega)]
      rw [List.range_succ, List.foldl_append]; rfl
    · unfold spec_ChainsUsed_L1
      simp only [lt_false (Int.le_refl _), cond_false]; rfl
  have eL0 : loopF (spec_ChainsUsed_L0 s) ((((s.Chains.length : Int)) - 0).toNat.succ) (0, [], doneL s.Chains.length [0]) = some (.brk ((s.Chains.length : Int), [], doneL s.Chains.length (roundsU s.Chains s.Chains.length))) := by
    refine loop_brk0 (body := spec_ChainsUsed_L0 s) s.Chains.length (fun k : Nat => ((k : Int), [], doneL s.Chains.length (roundsU s.Chains k))) rfl (fun k hk => ?_) ?_ (by omega)
    · unfold spec_ChainsUsed_L0
      simp only [lt_true (show (k : Int) < (s.Chains.length : Int) by omega), cond_true, eL1, Option.bind_some, LR.on, W_succ (show k < 9223372036854775807 by omega), roundsU_succ]
    · unfold spec_ChainsUsed_L0
      simp only [lt_false (Int.le_refl _), cond_false]
  have eL3 : loopF (spec_ChainsUsed_L3 s) ((((s.Chains.length : Int)) - 0).toNat.succ) ([], 0, doneL s.Chains.length (roundsU s.Chains s.Chains.length)) = some (.brk (castL (usedN s.Chains), (s.Chains.length : Int), doneL s.Chains.length (roundsU s.Chains s.Chains.length))) := by
    refine loop_brk0 (body := spec_ChainsUsed_L3 s) s.Chains.length (fun k : Nat => (castL ((List.range k).filter (usedB s.Chains)), (k : Int), doneL s.Chains.length (roundsU s.Chains s.Chains.length))) rfl (fun k hk => ?_) ?_ (by omega)
    · have hf := filter_len (usedB s.Chains) k
      unfold spec_ChainsUsed_L3
      simp only [lt_true (show (k : Int) < (s.Chains.length : Int) by omega), cond_true, done_idx hk, Option.bind_some, W_succ (show k < 9223372036854775807 by omega)]
      rw [filter_snoc, show (roundsU s.Chains s.Chains.length).contains k = usedB s.Chains k from rfl]
      cases usedB s.Chains k with
      | true => rw [cond_true, app_ok (by rw [castL_len]; simp; omega), Option.bind_some, castL_snoc]; rfl
      | false => simp
    · unfold spec_ChainsUsed_L3
      simp only [lt_false (Int.le_refl _), cond_false]; rfl
  simp only [Int.natCast_zero]
  rw [eL0, Option.bind_some]
  simp only [LR.on]
  rw [eL3]; rfl
theorem impl_used {s : Ruleset} (hb : CB s.Chains) (hv : impl_RulesetValid s = some true) : impl_ChainsUsed s = some (castL (usedN s.Chains)) := by
  have h5 := hb.n5
  unfold impl_ChainsUsed
  obtain ⟨b, col, e, hcl, hcol⟩ := visit_all hb
  have e' : impl_visitCalls 10 s.Chains 0 [0, 0, 0, 0, 0] = some (b, col) := e
  rw [hv, Option.bind_some, cond_true, e', Option.bind_some]
  have eo : loopF (impl_ChainsUsed_L0 (b, col)) (((5 : Int) - 0).toNat.succ) ([], 0) = some (.brk (castL ((List.range 5).filter (usedB s.Chains)), 5)) := by
    refine loop_brk0 (body := impl_ChainsUsed_L0 (b, col)) 5 (fun k : Nat => (castL ((List.range k).filter (usedB s.Chains)), (k : Int))) rfl (fun k hk => ?_) ?_ (by decide)
    · have hf := filter_len (usedB s.Chains) k
      obtain ⟨v, hv, hu⟩ := hcol k hk
      unfold impl_ChainsUsed_L0
      simp only [lt_true (show (k : Int) < 5 by omega), cond_true, idx_nat, hv, Option.bind_some, W_succ (show k < 9223372036854775807 by omega)]
      rw [filter_snoc]
      by_cases h0 : v = 0
      · have : usedB s.Chains k = false := by rw [Bool.eq_false_iff]; exact fun h => hu.2 ((usedB_iff hb).1 h) h0
        rw [this, (by simp [h0] : (v != 0) = false)]; simp
      · have : usedB s.Chains k = true := (usedB_iff hb).2 (hu.1 h0)
        rw [this, (by simp [h0] : (v != 0) = true), cond_true, app_ok (by rw [castL_len]; simp; omega), Option.bind_some, castL_snoc]; rfl
    · unfold impl_ChainsUsed_L0
      rfl
  rw [eo, Option.bind_some]
  simp only [LR.on]
  unfold usedN
  rw [filter_range (fun x hx => ((usedB_iff hb).1 hx).lt hb hb.n1) 5 h5]
theorem used_is {s : Ruleset} (hs : OkRs s) : ∃ r, spec_ChainsUsed s = some r ∧ impl_ChainsUsed s = some r ∧ (RSV s → r = castL (usedN s.Chains)) ∧ (¬ RSV s → r = []) := by
  obtain ⟨v, e1, e2, hv⟩ := (spec_ruleset hs).same (impl_ruleset hs)
  cases v with
  | true =>
    have hr := hv.1 rfl
    exact ⟨_, spec_used hr.1 e1, impl_used hr.1 e2, fun _ => rfl, fun h => absurd hr h⟩
  | false =>
    refine ⟨[], ?_, ?_, fun h => by simpa using hv.2 h, fun _ => rfl⟩
    · unfold spec_ChainsUsed; rw [e1]; rfl
    · unfold impl_ChainsUsed; rw [e2]; rfl
theorem plain_FnChainsUsed (code : List Int) (g : GAll GU8 code) : laws_FnChainsUsed code = some true := by
  unfold laws_FnChainsUsed
  refine draw_guard fun _ => ?_
  obtain ⟨s, e, hs⟩ := draw_chainsused g
  obtain ⟨r, e1, e2, h1, h2⟩ := used_is hs.ok
  have hlen := hs.1
  rw [e]
  simp only [Option.bind_some, e1, e2, alive_is]
  obtain ⟨v, e3, hv⟩ := spec_ruleset hs.ok
  by_cases hr : RSV s
  · have hb := hr.1
    have h5 := hb.n5
    obtain rfl := h1 hr
    have hul := usedN_len (cs := s.Chains)
    have h0 : 0 ∈ usedN s.Chains := (usedN_mem hb).2 (.refl _)
    have hpos : 0 < (usedN s.Chains).length := List.length_pos_of_mem h0
    have hlt : ∀ {k : Nat} (hk : k < (usedN s.Chains).length), (usedN s.Chains)[k] < s.Chains.length := fun hk => ((usedN_mem hb).1 (List.getElem_mem hk)).lt hb hb.n1
    rw [same_ints _ (by rw [castL_len]; omega), Option.bind_some, cond_true, castL_len, show (((usedN s.Chains).length : Int) == 0) = false from by simp; exact List.ne_nil_of_length_pos hpos, cond_false]
    have em : makeF false 5 = some (doneL 5 []) := rfl
    rw [em, Option.bind_some]
    have eL0 : loopF (laws_FnChainsUsed_L0 s (castL (usedN s.Chains))) (((((usedN s.Chains).length : Nat) : Int) - 0).toNat.succ) (0, doneL 5 []) = some (.brk (((usedN s.Chains).length : Int), doneL 5 (usedN s.Chains))) := by
      refine loop_brk0 (body := laws_FnChainsUsed_L0 s (castL (usedN s.Chains))) (usedN s.Chains).length (fun k : Nat => ((k : Int), doneL 5 ((usedN s.Chains).take k))) rfl (fun k hk => ?_) ?_ (by omega)
      · have hu := hlt hk
        unfold laws_FnChainsUsed_L0
        simp only [castL_len, lt_true (show (k : Int) < ((usedN s.Chains).length : Int) by omega), cond_true, castL_idx hk, Option.bind_some, W_succ (show k < 9223372036854775807 by omega)]
        rw [decide_eq_false (by omega : ¬ (((usedN s.Chains)[k] : Nat) : Int) < 0), cond_false, decide_eq_false (by omega : ¬ ((s.Chains.length : Int) ≤ (((usedN s.Chains)[k] : Nat) : Int))), cond_false, done_idx (by omega), Option.bind_some, Int.toNat_natCast, done_set (by omega), take_snoc (List.getElem?_eq_getElem hk)]
      · unfold laws_FnChainsUsed_L0
        simp only [castL_len, lt_false (Int.le_refl _), cond_false, List.take_length]
    have eL2 : ∀ u, u ∈ usedN s.Chains → loopF (laws_FnChainsUsed_L2 (castL (callN (ch s.Chains u)))) (((((callN (ch s.Chains u)).length : Nat) : Int) - 0).toNat.succ) (0, doneL 5 (usedN s.Chains)) = some (.brk (((callN (ch s.Chains u)).length : Int), doneL 5 (usedN s.Chains))) := fun u hu => by
      have hcl := callN_len (ch s.Chains u)
      refine loop_brk0 (body := laws_FnChainsUsed_L2 (castL (callN (ch s.Chains u)))) (callN (ch s.Chains u)).length (fun k : Nat => ((k : Int), doneL 5 (usedN s.Chains))) rfl (fun k hk => ?_) ?_ (by omega)
      · have hm := callN_mem.1 (List.getElem_mem hk)
        have hin : (callN (ch s.Chains u))[k] ∈ usedN s.Chains := (usedN_mem hb).2 (((usedN_mem hb).1 hu).snoc hm.2)
        unfold laws_FnChainsUsed_L2
        simp only [castL_len, lt_true (show (k : Int) < ((callN (ch s.Chains u)).length : Int) by omega), cond_true, castL_idx hk, Option.bind_some, W_succ (show k < 9223372036854775807 by omega)]
        rw [decide_eq_false (by omega : ¬ (((callN (ch s.Chains u))[k] : Nat) : Int) < 0), cond_false, decide_eq_false (by omega : ¬ ((5 : Int) ≤ (((callN (ch s.Chains u))[k] : Nat) : Int))), cond_false, done_idx (by omega), Option.bind_some, List.contains_iff_mem.2 hin]; rfl
      · unfold laws_FnChainsUsed_L2
        simp only [castL_len, lt_false (Int.le_refl _), cond_false]
    have eL1 : loopF (laws_FnChainsUsed_L1 s (castL (usedN s.Chains))) (((((usedN s.Chains).length : Nat) : Int) - 0).toNat.succ) (0, doneL 5 (usedN s.Chains)) = some (.brk (((usedN s.Chains).length : Int), doneL 5 (usedN s.Chains))) := by
      refine loop_brk0 (body := laws_FnChainsUsed_L1 s (castL (usedN s.Chains))) (usedN s.Chains).length (fun k : Nat => ((k : Int), doneL 5 (usedN s.Chains))) rfl (fun k hk => ?_) ?_ (by omega)
      · have hu := hlt hk
        obtain ⟨q, _, ec, hq, _⟩ := calls_is hs.ok (((usedN s.Chains)[k] : Nat) : Int)
        have hq := hq hr (by omega) (by omega)
        rw [Int.toNat_natCast] at hq
        subst hq
        unfold laws_FnChainsUsed_L1
        simp only [castL_len, lt_true (show (k : Int) < ((usedN s.Chains).length : Int) by omega), cond_true, castL_idx hk, Option.bind_some, ec, eL2 _ (List.getElem_mem hk), LR.on, W_succ (show k < 9223372036854775807 by omega)]
      · unfold laws_FnChainsUsed_L1
        simp only [castL_len, lt_false (Int.le_refl _), cond_false]
    simp only [Int.sub_zero] at eL0 eL1
    simp only [Int.sub_zero]
    rw [eL0, Option.bind_some]
    simp only [LR.on]
    rw [eL1, Option.bind_some]
    simp only [LR.on]
    obtain ⟨t, _, et, ht, _⟩ := trace_is hs.ok ({ From := 3, To := 5, Port := 0, Proto := 0 } : Packet)
    have ht := ht hr ⟨by decide, by decide, by decide, by decide, by decide⟩
    rw [et, Option.bind_some]
    have hvo := (judge_trace hr ({ From := 3, To := 5, Port := 0, Proto := 0 } : Packet)).1
    have htl : t.length ≤ 200 := by rw [ht]; exact (judge_ok s _).2
    have eL3 : loopF (laws_FnChainsUsed_L3 t) ((t.length : Int)).toNat.succ (0, doneL 5 (usedN s.Chains)) = some (.brk ((t.length : Int), doneL 5 (usedN s.Chains))) := by
      refine loop_brk0 (body := laws_FnChainsUsed_L3 t) t.length (fun k : Nat => ((k : Int), doneL 5 (usedN s.Chains))) rfl (fun k hk => ?_) ?_ (by omega)
      · have hm : t[k] ∈ (judge s ({ From := 3, To := 5, Port := 0, Proto := 0 } : Packet)).2 := by rw [← ht]; exact List.getElem_mem hk
        obtain ⟨⟨c, j, x, hx, hc, _, _⟩, hre⟩ := hvo _ hm
        rw [hx] at hre
        simp only [Int.toNat_natCast] at hre
        have hin : c ∈ usedN s.Chains := (usedN_mem hb).2 hre
        unfold laws_FnChainsUsed_L3
        simp only [lt_true (show (k : Int) < (t.length : Int) by omega), cond_true, idx_get hk, Option.bind_some, hx, W_succ (show k < 9223372036854775807 by omega)]
        rw [decide_eq_false (by omega : ¬ (c : Int) < 0), cond_false, decide_eq_false (by omega : ¬ ((5 : Int) ≤ (c : Int))), cond_false, done_idx (by omega), Option.bind_some, List.contains_iff_mem.2 hin]; rfl
      · unfold laws_FnChainsUsed_L3
        simp only [lt_false (Int.le_refl _), cond_false]
    rw [eL3, Option.bind_some]
    simp only [LR.on]
    rw [show (0 : Int) = ((0 : Nat) : Int) from rfl, done_idx (by decide), Option.bind_some, List.contains_iff_mem.2 h0]
  · obtain rfl := h2 hr
    rw [same_ints _ (by simp), Option.bind_some, cond_true]
    have : v = false := by rw [Bool.eq_false_iff]; exact fun h => hr (hv.1 h)
    subst this
    simp only [e3, Option.bind_some, List.length_nil, cond_false]
    rfl
end Go.PF.F
