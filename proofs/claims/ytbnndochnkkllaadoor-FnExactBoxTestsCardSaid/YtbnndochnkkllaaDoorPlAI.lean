/- Plain laws: called chains, depths of calls. -/
import Derived.Test.YtbnndochnkkllaaDoorPlAE
namespace Go.PF.F
open Go Go.PF

theorem draw_callsof {code : List Int} (h : GAll GU8 code) : ∃ (s : Ruleset) (a : Int), spec_DrawCallsOf code = some (s, a) ∧ RsSm s ∧ -1000 ≤ a ∧ a ≤ 1000 := by
  obtain ⟨s, p, xs, e0, hx, e, hs, hp0, hp1⟩ := draw_ruleset h 9
  have hl := hs.1
  unfold spec_DrawCallsOf
  rw [e0, Option.bind_some]
  simp only [e, Option.bind_some]
  rw [W_of (x := (s.Chains.length : Int) + 1) (by omega) (by omega)]
  obtain ⟨r, p1, e1, ⟨r0, r1⟩, l1, u1⟩ := Dr.pick hx (pos := p) (n := (s.Chains.length : Int) + 1) (by omega) (by omega) (by omega)
  rw [e1, Option.bind_some]
  obtain ⟨q, p2, e2, ⟨q0, q1⟩, _, _⟩ := Dr.pick hx (pos := p1) (n := 14) (by decide) (by omega) (by omega)
  simp only [e2, Option.bind_some]
  have hq : q.tdiv 13 = q / 13 := Int.tdiv_eq_ediv_of_nonneg q0
  rw [hq, W_of (x := q / 13) (by omega) (by omega), W_of (x := r - q / 13) (by omega) (by omega)]
  exact ⟨s, _, rfl, hs, by omega, by omega⟩
theorem depth_no {s : Ruleset} (hs : OkRs s) {a : Int} (h : ¬ (RSV s ∧ 0 ≤ a ∧ a < s.Chains.length)) : impl_CallDepth s a = some (-1) := by
  obtain ⟨v, e2, hv⟩ := impl_ruleset hs
  unfold impl_CallDepth
  rw [e2, Option.bind_some]
  cases v with
  | false => rfl
  | true =>
    have hr : RSV s := hv.1 rfl
    rw [cond_true]
    by_cases h0 : a < 0
    · rw [decide_eq_true h0]; rfl
    · rw [decide_eq_false h0, cond_false, decide_eq_true (by have : ¬ (a < s.Chains.length) := fun e => h ⟨hr, by omega, e⟩; omega : (s.Chains.length : Int) ≤ a)]; rfl
theorem depF_rank {cs : List (List Rule)} {ρ : Nat → Nat} (h : Rank cs ρ) : ∀ f c, c < cs.length → ρ c < f → depF cs f c ≤ ρ c
  | 0, _, _, h1 => by omega
  | f + 1, c, hc, h1 => (depF_iff cs f c _).2 fun d hd => by
    have := h.2 c d hc (callN_mem.1 hd).2
    have := depF_rank h f d this.1 (by omega)
    omega
theorem dep_lt {cs : List (List Rule)} {ρ : Nat → Nat} (h : Rank cs ρ) {c : Nat} (hc : c < cs.length) : dep cs c < cs.length := by
  have h1 := h.1 c hc
  have := depF_rank h cs.length c hc h1
  unfold dep
  omega
theorem callN_sorted (rs : List Rule) {i j : Nat} (hj : j < (callN rs).length) (hij : i < j) : (callN rs)[i] < (callN rs)[j] := by
  have hp : (callN rs).Pairwise (· < ·) := List.Pairwise.filter _ List.pairwise_lt_range
  exact List.pairwise_iff_getElem.1 hp i j (by omega) hj hij
theorem plain_FnCallsOf (code : List Int) (g : GAll GU8 code) : laws_FnCallsOf code = some true := by
  unfold laws_FnCallsOf
  refine draw_guard fun _ => ?_
  obtain ⟨s, a, e, hs, ha0, ha1⟩ := draw_callsof g
  obtain ⟨r, e1, e2, h1, h2⟩ := calls_is hs.ok a
  have hlen := hs.1
  rw [e]
  simp only [Option.bind_some, e1, e2, alive_is]
  by_cases hall : RSV s ∧ 0 ≤ a ∧ a < s.Chains.length
  · obtain ⟨hr, h0, hlt⟩ := hall
    obtain rfl := h1 hr h0 hlt
    obtain ⟨d, _, e4, hd⟩ := depth_is hs.ok a
    obtain rfl := hd hr h0 hlt
    obtain ⟨c, rfl⟩ := Int.eq_ofNat_of_zero_le h0
    have hc : c < s.Chains.length := by omega
    obtain ⟨ρ, hρ⟩ := ends_rank hr.1 hr.2
    have hcl := callN_len (ch s.Chains c)
    simp only [Int.toNat_natCast] at e4 ⊢
    rw [same_ints _ (by rw [castL_len]; omega), Option.bind_some, cond_true, e4, Option.bind_some]
    have eL : loopF (laws_FnCallsOf_L0 (s, (c : Int)) (castL (callN (ch s.Chains c))) ((dep s.Chains c : Nat) : Int)) ((((castL (callN (ch s.Chains c))).length : Int)) - 0).toNat.succ 0 = some (.brk ((callN (ch s.Chains c)).length : Int)) := by
      refine loop_brk0 (body := laws_FnCallsOf_L0 (s, (c : Int)) (castL (callN (ch s.Chains c))) ((dep s.Chains c : Nat) : Int)) (callN (ch s.Chains c)).length (fun k : Nat => (k : Int)) rfl (fun k hk => ?_) ?_ (by rw [castL_len]; omega)
      · have hcall : Calls s.Chains c (callN (ch s.Chains c))[k] := (callN_mem.1 (List.getElem_mem hk)).2
        have hdc := hρ.2 c _ hc hcall
        have hdd := (dep_iff hr.1 hρ hc (dep s.Chains c)).1 (Nat.le_refl _) _ hcall
        obtain ⟨d, _, e5, hd⟩ := depth_is hs.ok (((callN (ch s.Chains c))[k] : Nat) : Int)
        obtain rfl := hd hr (by omega) (by have := hdc.1; omega)
        rw [Int.toNat_natCast] at e5
        unfold laws_FnCallsOf_L0
        simp only [castL_len, lt_true (show (k : Int) < ((callN (ch s.Chains c)).length : Int) by omega), cond_true, castL_idx hk, Option.bind_some, e5]
        rw [decide_eq_false (by omega : ¬ (((dep s.Chains c : Nat) : Int) ≤ ((dep s.Chains (callN (ch s.Chains c))[k] : Nat) : Int))), cond_false]
        by_cases k0 : k = 0
        · subst k0; rfl
        · have hs := callN_sorted (ch s.Chains c) hk (show k - 1 < k by omega)
          rw [decide_eq_true (by omega : (0 : Int) < (k : Int)), cond_true, W_of (x := (k : Int) - 1) (by omega) (by omega), show (k : Int) - 1 = ((k - 1 : Nat) : Int) by omega, castL_idx (show k - 1 < (callN (ch s.Chains c)).length by omega), Option.bind_some, decide_eq_false (by omega), cond_false, W_succ (show k < 9223372036854775807 by omega)]
      · unfold laws_FnCallsOf_L0
        simp only [castL_len, lt_false (Int.le_refl _), cond_false]
    rw [eL, Option.bind_some]
    simp only [LR.on, castL_len]
    have hz : (decide ((0 : Int) < ((callN (ch s.Chains c)).length : Int)) == decide ((0 : Int) < ((dep s.Chains c : Nat) : Int))) = true := by
      have := dep_iff hr.1 hρ hc 0
      by_cases hn : (callN (ch s.Chains c)).length = 0
      · have hd0 : dep s.Chains c ≤ 0 := this.2 fun d hd => by
          have := hρ.2 c d hc hd
          have hm : d ∈ callN (ch s.Chains c) := callN_mem.2 ⟨by have := hr.1.n5; omega, hd⟩
          rw [List.eq_nil_of_length_eq_zero hn] at hm; cases hm
        rw [decide_eq_false (by omega), decide_eq_false (by omega)]; rfl
      · have hm := List.getElem_mem (show 0 < (callN (ch s.Chains c)).length by omega)
        have hd0 : ¬ dep s.Chains c ≤ 0 := fun h => by have := this.1 h _ (callN_mem.1 hm).2; omega
        rw [decide_eq_true (by omega), decide_eq_true (by omega)]; rfl
    rw [hz]; rfl
  · obtain rfl := h2 hall
    rw [same_ints _ (by simp), Option.bind_some, cond_true, depth_no hs.ok hall]
    rfl
theorem plain_FnCallDepth (code : List Int) (g : GAll GU8 code) : laws_FnCallDepth code = some true := by
  unfold laws_FnCallDepth
  refine draw_guard fun _ => ?_
  obtain ⟨s, a, e, hs, ha0, ha1⟩ := draw_callsof g
  obtain ⟨d, e1, e2, hd⟩ := depth_is hs.ok a
  obtain ⟨r, _, e3, h1, h2⟩ := calls_is hs.ok a
  have hlen := hs.1
  have ed : spec_DrawCallDepth code = some (s, a) := by unfold spec_DrawCallDepth; rw [e]; rfl
  rw [ed]
  simp only [Option.bind_some, e1, e2, e3, alive_is, bne_self_eq_false, cond_false]
  by_cases hall : RSV s ∧ 0 ≤ a ∧ a < s.Chains.length
  · obtain ⟨hr, h0, hlt⟩ := hall
    obtain rfl := h1 hr h0 hlt
    obtain rfl := hd hr h0 hlt
    obtain ⟨c, rfl⟩ := Int.eq_ofNat_of_zero_le h0
    have hc : c < s.Chains.length := by omega
    obtain ⟨ρ, hρ⟩ := ends_rank hr.1 hr.2
    have hcl := callN_len (ch s.Chains c)
    have hdl := dep_lt hρ hc
    simp only [Int.toNat_natCast]
    rw [decide_eq_false (by omega : ¬ (((dep s.Chains c : Nat) : Int) < 0)), cond_false]
    have eL : loopF (laws_FnCallDepth_L0 (s, (c : Int)) (castL (callN (ch s.Chains c)))) ((((castL (callN (ch s.Chains c))).length : Int)) - 0).toNat.succ (0, 0) = some (.brk (((dep s.Chains c : Nat) : Int), ((callN (ch s.Chains c)).length : Int))) := by
      have hfin : ((callN (ch s.Chains c)).map fun d => 1 + dep s.Chains d).foldl max 0 = dep s.Chains c := by
        have key : ∀ b, ((callN (ch s.Chains c)).map fun d => 1 + dep s.Chains d).foldl max 0 ≤ b ↔ dep s.Chains c ≤ b := fun b => by
          rw [foldl_max_le, dep_iff hr.1 hρ hc]
          constructor
          · intro ⟨_, hh⟩ d hd
            have := hρ.2 c d hc hd
            exact hh _ (List.mem_map.2 ⟨d, callN_mem.2 ⟨by have := hr.1.n5; omega, hd⟩, rfl⟩)
          · intro hh
            refine ⟨Nat.zero_le _, fun x hx => ?_⟩
            obtain ⟨d, hd, rfl⟩ := List.mem_map.1 hx
            exact hh d (callN_mem.1 hd).2
        exact Nat.le_antisymm ((key _).2 (Nat.le_refl _)) ((key _).1 (Nat.le_refl _))
      refine loop_brk0 (body := laws_FnCallDepth_L0 (s, (c : Int)) (castL (callN (ch s.Chains c)))) (callN (ch s.Chains c)).length (fun k : Nat => ((((((callN (ch s.Chains c)).take k).map fun d => 1 + dep s.Chains d).foldl max 0 : Nat) : Int), (k : Int))) rfl (fun k hk => ?_) ?_ (by rw [castL_len]; omega)
      · have hcall : Calls s.Chains c (callN (ch s.Chains c))[k] := (callN_mem.1 (List.getElem_mem hk)).2
        have hdc := hρ.2 c _ hc hcall
        obtain ⟨d, _, e5, hd⟩ := depth_is hs.ok (((callN (ch s.Chains c))[k] : Nat) : Int)
        obtain rfl := hd hr (by omega) (by have := hdc.1; omega)
        rw [Int.toNat_natCast] at e5
        have hdl := dep_lt hρ hdc.1
        unfold laws_FnCallDepth_L0
        simp only [castL_len, lt_true (show (k : Int) < ((callN (ch s.Chains c)).length : Int) by omega), cond_true, castL_idx hk, Option.bind_some, e5, W_succ (show k < 9223372036854775807 by omega)]
        rw [W_one_add (by omega), imax_nat, take_snoc (List.getElem?_eq_getElem hk), List.map_append, List.foldl_append]; rfl
      · unfold laws_FnCallDepth_L0
        simp only [castL_len, lt_false (Int.le_refl _), cond_false, List.take_length, hfin]
    rw [eL, Option.bind_some]
    simp only [LR.on, beq_self_eq_true, cond_true]
    rw [decide_eq_true (by omega)]
  · have := depth_no hs.ok hall
    rw [e2] at this
    obtain rfl := Option.some.inj this
    rfl
end Go.PF.F
