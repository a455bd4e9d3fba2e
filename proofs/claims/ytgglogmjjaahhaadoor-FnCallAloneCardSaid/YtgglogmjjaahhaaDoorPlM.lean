/- Plain laws: laws of drawn arguments: boxes, rules. -/
import Derived.Test.YtgglogmjjaahhaaDoorPlL
namespace Go.PF.F
open Go Go.PF

theorem alive_is : laws_alive = some true := rfl
theorem draw_guard {c : Prop} [Decidable c] {k : Option Bool} (h : ¬ c → k = some true) : (bif decide c then some true else k) = some true := by
  by_cases hc : c
  · rw [decide_eq_true hc]; rfl
  · rw [decide_eq_false hc]; exact h hc
theorem draw_open {code : List Int} (h : GAll GU8 code) {α : Type} {K : List Int × Int → Option α} {R : Option α → Prop} (hk : ∀ xs, Bytes xs → R (K (xs, 0))) : R ((spec_l20Open code).bind K) := by
  obtain ⟨xs, e, hx⟩ := open_ok h
  rw [e]; exact hk xs hx
/-! Rules. -/
theorem RulesSm.ok {rs : List Rule} (h : RulesSm rs) : rs.length ≤ 9223372036854775807 ∧ ∀ r ∈ rs, r.Tests.length ≤ 9223372036854775807 := ⟨by have := h.1; omega, fun r hr => by have := h.2 r hr; omega⟩
/-! First fits. -/
/-- What a first fit's draw gives. -/
theorem draw_firstfit {code : List Int} (h : GAll GU8 code) : ∃ rs n p, spec_DrawFirstFit code = some (rs, n, p) ∧ RulesSm rs ∧ -10 ≤ n ∧ n ≤ 10 := by
  unfold spec_DrawFirstFit
  refine draw_open (R := fun m => ∃ rs n p, m = some (rs, n, p) ∧ RulesSm rs ∧ -10 ≤ n ∧ n ≤ 10) h fun xs hx => ?_
  refine Dr.run (R := fun m => ∃ rs n p, m = some (rs, n, p) ∧ RulesSm rs ∧ -10 ≤ n ∧ n ≤ 10) (dr_rules hx 0 1 3 14 (by decide)) (by decide) (by decide) fun rs p hr h0 h1 => ?_
  obtain ⟨o, ho, ⟨y, k, p'⟩, rfl, hl, l, u⟩ := loop_wf (body := spec_DrawFirstFit_L0 (xs, 0) (rs, p))
    (fun s => ∃ k : Nat, s.2.1 = (k : Int) ∧ k ≤ rs.length ∧ s.1.length ≤ 7 * k ∧ p ≤ s.2.2 ∧ s.2.2 ≤ p + k) (fun s => rs.length - s.2.1.toNat)
    (fun o => ∃ s : List Test × Int × Int, o = .brk s ∧ s.1.length ≤ 70 ∧ p ≤ s.2.2 ∧ s.2.2 ≤ p + 10)
    (fun s ⟨k, e1, hk, hl, l, u⟩ => by
      obtain ⟨y, i, q⟩ := s
      simp only at e1 hl l u
      subst e1
      have hr1 := hr.1
      unfold spec_DrawFirstFit_L0
      rcases drop_cases rs k hk with ⟨e, rfl⟩ | ⟨t, _, e, hk', ht, _⟩
      · exact .inr (.inl ⟨_, by simp only [lt_false (Int.le_refl _), cond_false]; rfl, _, rfl, by simp only; omega, l, by simp only; omega⟩)
      · refine .inl ?_
        simp only [lt_true (show (k : Int) < (rs.length : Int) by omega), cond_true, W_succ (show k < 9223372036854775807 by omega)]
        obtain ⟨r3, p3, e3, _, l3, u3⟩ := Dr.pick hx (pos := q) (n := 2) (by decide) (by omega) (by omega)
        have ht' := hr.2 t (List.mem_of_getElem? (by rw [idx_nat] at ht; exact ht))
        rw [e3, Option.bind_some]
        by_cases c : (r3 == 0) = true
        · simp only [c, cond_true, ht, Option.bind_some, app_ok (show y.length + t.Tests.length ≤ 4294967296 by omega)]
          exact ⟨_, rfl, ⟨k + 1, rfl, hk', by simp; omega, by simp only; omega, by simp only; omega⟩, by simp only [Int.toNat_natCast]; omega⟩
        · simp only [Bool.eq_false_iff.2 c, cond_false]
          exact ⟨_, rfl, ⟨k + 1, rfl, hk', by simp only; omega, by simp only; omega, by simp only; omega⟩, by simp only [Int.toNat_natCast]; omega⟩)
    ((((rs.length : Int)) : Int) - 0).toNat.succ (([] : List Test), 0, p) ⟨0, rfl, Nat.zero_le _, by simp, by simp, by simp⟩ (by simp)
  simp only at hl l u
  simp only [ho, Option.bind_some, LR.on]
  refine Dr.run (R := fun m => ∃ rs n p, m = some (rs, n, p) ∧ RulesSm rs ∧ -10 ≤ n ∧ n ≤ 10) (Dr.pick hx (by decide)) (by omega) (by omega) fun x5 p5 a5 _ _ => ?_
  refine Dr.run (R := fun m => ∃ rs n p, m = some (rs, n, p) ∧ RulesSm rs ∧ -10 ≤ n ∧ n ≤ 10) (Dr.pick hx (by decide)) (by omega) (by omega) fun x6 p6 a6 _ _ => ?_
  refine Dr.run (R := fun m => ∃ rs n p, m = some (rs, n, p) ∧ RulesSm rs ∧ -10 ≤ n ∧ n ≤ 10) (dr_near hx (ts := y) (by omega) p6 20) (by omega) (by omega) fun q p7 _ _ _ => ?_
  have hd : 0 ≤ x6.tdiv 8 ∧ x6.tdiv 8 ≤ 9 := ⟨Int.tdiv_nonneg a6.1 (by omega), by rw [Int.tdiv_eq_ediv_of_nonneg a6.1]; omega⟩
  refine ⟨_, _, _, rfl, hr, ?_, ?_⟩
  · simp only
    rw [W_of (x := x6.tdiv 8) (by omega) (by omega), W_of (by omega) (by omega)]; omega
  · simp only
    rw [W_of (x := x6.tdiv 8) (by omega) (by omega), W_of (by omega) (by omega)]; omega
end Go.PF.F
