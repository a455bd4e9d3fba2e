/- Plain laws: called chains, used chains. -/
import Derived.Test.YtgglogmjjaahhaaDoorPlAD
namespace Go.PF.F
open Go Go.PF

/-! Called chains. -/
theorem calls_inner {s : Ruleset} (hb : CB s.Chains) {c : Nat} (hc : c < s.Chains.length) (d : Nat) (y : List Int) :
    loopF (spec_CallsOf_L1 s (c : Int) (d : Int)) ((((ch s.Chains c).length : Int)) - 0).toNat.succ (false, 0, y) = some (.brk (called (ch s.Chains c) d, ((ch s.Chains c).length : Int), y)) := by
  have hl := (hb.rv _ (ch_mem hc)).2
  refine loop_brk0 (body := spec_CallsOf_L1 s (c : Int) (d : Int)) (ch s.Chains c).length (fun k : Nat => (called ((ch s.Chains c).take k) d, (k : Int), y)) rfl (fun k hk => ?_) ?_ (by omega)
  · unfold spec_CallsOf_L1
    simp only [ch_idx hc, Option.bind_some, lt_true (show (k : Int) < ((ch s.Chains c).length : Int) by omega), cond_true, idx_get hk, W_succ (show k < 9223372036854775807 by omega)]
    rw [take_snoc (List.getElem?_eq_getElem hk), called_app]
    cases called ((ch s.Chains c).take k) d with
    | true => rfl
    | false =>
      rw [cond_false, Bool.false_or]
      by_cases ha : (ch s.Chains c)[k].Action = 3
      · rw [(by simp [ha] : ((ch s.Chains c)[k].Action == 3) = true), cond_true, Bool.true_and]
      · rw [(by simp [ha] : ((ch s.Chains c)[k].Action == 3) = false), cond_false, Bool.false_and]
  · unfold spec_CallsOf_L1
    simp only [ch_idx hc, Option.bind_some, lt_false (Int.le_refl _), cond_false, List.take_length]
theorem castL_snoc (xs : List Nat) (d : Nat) : castL xs ++ [(d : Int)] = castL (xs ++ [d]) := by unfold castL; rw [List.map_append]; rfl
theorem filter_snoc (q : Nat → Bool) (k : Nat) : (List.range (k + 1)).filter q = (List.range k).filter q ++ (if q k then [k] else []) := by
  rw [List.range_succ, List.filter_append]
  congr 1
  cases h : q k <;> simp [h]
theorem filter_len (q : Nat → Bool) (k : Nat) : ((List.range k).filter q).length ≤ k := by
  have := List.length_filter_le q (List.range k)
  rwa [List.length_range] at this
theorem calls_is {s : Ruleset} (hs : OkRs s) (a : Int) : ∃ r, spec_CallsOf s a = some r ∧ impl_CallsOf s a = some r ∧ (RSV s → 0 ≤ a → a < s.Chains.length → r = castL (callN (ch s.Chains a.toNat))) ∧ (¬ (RSV s ∧ 0 ≤ a ∧ a < s.Chains.length) → r = []) := by
  obtain ⟨v, e1, e2, hv⟩ := (spec_ruleset hs).same (impl_ruleset hs)
  have hl := hs.1
  by_cases hall : RSV s ∧ 0 ≤ a ∧ a < s.Chains.length
  · obtain ⟨hr, h0, h1⟩ := hall
    have hvt : v = true := hv.2 hr
    subst hvt
    have hb := hr.1
    have h5 := hb.n5
    obtain ⟨c, rfl⟩ := Int.eq_ofNat_of_zero_le h0
    have hc : c < s.Chains.length := by omega
    refine ⟨castL (callN (ch s.Chains c)), ?_, ?_, fun _ _ _ => rfl, fun h => absurd ⟨hr, h0, h1⟩ h⟩
    · unfold spec_CallsOf
      have e : loopF (spec_CallsOf_L0 s (c : Int)) ((((s.Chains.length : Int)) - 0).toNat.succ) ([], 0) = some (.brk (castL ((List.range s.Chains.length).filter (called (ch s.Chains c))), (s.Chains.length : Int))) := by
        refine loop_brk0 (body := spec_CallsOf_L0 s (c : Int)) s.Chains.length (fun k : Nat => (castL ((List.range k).filter (called (ch s.Chains c))), (k : Int))) rfl (fun k hk => ?_) ?_ (by omega)
        · have hf := filter_len (called (ch s.Chains c)) k
          unfold spec_CallsOf_L0
          simp only [lt_true (show (k : Int) < (s.Chains.length : Int) by omega), cond_true, e1, Option.bind_some, in_dec, ch_idx hc, Option.getD_some, calls_inner hb hc, LR.on, W_succ (show k < 9223372036854775807 by omega)]
          rw [W_of (by omega) (by omega), decide_eq_true (by omega : (0 : Int) ≤ (c : Int) ∧ (c : Int) ≤ (s.Chains.length : Int) - 1), cond_true, filter_snoc]
          cases called (ch s.Chains c) k with
          | true =>
            rw [cond_true, app_ok (by rw [castL_len]; simp; omega), Option.bind_some, castL_snoc]; rfl
          | false => simp
        · unfold spec_CallsOf_L0
          simp only [lt_false (Int.le_refl _), cond_false]
      rw [e, Option.bind_some, callN_range hb hc]; rfl
    · unfold impl_CallsOf
      rw [e2, Option.bind_some, cond_true, decide_eq_false (by omega : ¬ ((c : Int) < 0)), cond_false, decide_eq_false (by omega : ¬ ((s.Chains.length : Int) ≤ (c : Int))), cond_false, ch_idx hc, Option.bind_some, calls_in (hb.rv _ (ch_mem hc))]; rfl
  · refine ⟨[], ?_, ?_, fun hr h0 h1 => absurd ⟨hr, h0, h1⟩ hall, fun _ => rfl⟩
    · unfold spec_CallsOf
      have e : spec_CallsOf_L0 s a ([], 0) = some (.brk ([], 0)) := by
        unfold spec_CallsOf_L0
        simp only
        cases decide ((0 : Int) < (s.Chains.length : Int)) with
        | false => rfl
        | true =>
          rw [cond_true, e1, Option.bind_some]
          cases v with
          | false => rfl
          | true =>
            have hr := hv.1 rfl
            have h5 := hr.1.n5
            have h1 := hr.1.n1
            rw [cond_true, in_dec, Option.bind_some, W_of (by omega) (by omega), decide_eq_false (by intro h; exact hall ⟨hr, h.1, by omega⟩)]; rfl
      unfold loopF
      rw [e]; rfl
    · unfold impl_CallsOf
      rw [e2, Option.bind_some]
      cases v with
      | false => rfl
      | true =>
        have hr := hv.1 rfl
        rw [cond_true]
        by_cases h0 : a < 0
        · rw [decide_eq_true h0]; rfl
        · rw [decide_eq_false h0, cond_false, decide_eq_true (by
            rcases Int.lt_or_le a (s.Chains.length : Int) with h | h
            · exact absurd ⟨hr, by omega, h⟩ hall
            · exact h)]; rfl

/-! Used chains. -/
end Go.PF.F
