import Derived.Test.YtieijbplcmpnaaaDoorPlAE
import Derived.Test.YtieijbplcmpnaaaDoorPlP
/- Plain laws: called chains, depths of calls. -/
namespace Go.PF.F
open Go Go.PF

theorem draw_callsof {code : List Int} (h : GAll GU8 code) : ∃ (s : Ruleset) (a : Int), spec_DrawCallsOf code = some (s, a) ∧ RsSm s ∧ -1000 ≤ a ∧ a ≤ 1000 := by
  obtain ⟨s, p, xs, e0, hx, e, hs, hp0, hp1⟩ := draw_ruleset h 9
  have hl := hs.1
  unfold spec_DrawCallsOf
  rw [e0, Option.bind_some]
  simp only [e, Option.bind_some]
  rw [W_of (x := (s.Chains.length : Int) + 1) (by omega) (by omega)]
  obtain ⟨r, p1, e1, ⟨r0, r1⟩, l1, u1⟩ := Dr.pick hx (pos := p) (n := (s.Chains.length : Int) + 1) (by omega) (by omega) (by omega)
  rw [e1, Option.bind_some]
  obtain ⟨q, p2, e2, ⟨q0, q1⟩, _, _⟩ := Dr.pick hx (pos := p1) (n := 14) (by decide) (by omega) (by omega)
  simp only [e2, Option.bind_some]
  have hq : q.tdiv 13 = q / 13 := Int.tdiv_eq_ediv_of_nonneg q0
  rw [hq, W_of (x := q / 13) (by omega) (by omega), W_of (x := r - q / 13) (by omega) (by omega)]
  exact ⟨s, _, rfl, hs, by omega, by omega⟩
theorem depth_no {s : Ruleset} (hs : OkRs s) {a : Int} (h : ¬ (RSV s ∧ 0 ≤ a ∧ a < s.Chains.length)) : impl_CallDepth s a = some (-1) := by
  obtain ⟨v, e2, hv⟩ := impl_ruleset hs
  unfold impl_CallDepth
  rw [e2, Option.bind_some]
  cases v with
  | false => rfl
  | true =>
    have hr : RSV s := hv.1 rfl
    rw [cond_true]
    by_cases h0 : a < 0
    · rw [decide_eq_true h0]; rfl
    · rw [decide_eq_false h0, cond_false, decide_eq_true (by have : ¬ (a < s.Chains.length) := fun e => h ⟨hr, by omega, e⟩; omega : (s.Chains.length : Int) ≤ a)]; rfl
theorem depF_rank {cs : List (List Rule)} {ρ : Nat → Nat} (h : Rank cs ρ) : ∀ f c, c < cs.length → ρ c < f → depF cs f c ≤ ρ c
  | 0, _, _, h1 => by omega
  | f + 1, c, hc, h1 => (depF_iff cs f c _).2 fun d hd => by
    have := h.2 c d hc (callN_mem.1 hd).2
    have := depF_rank h f d this.1 (by omega)
    omega
theorem dep_lt {cs : List (List Rule)} {ρ : Nat → Nat} (h : Rank cs ρ) {c : Nat} (hc : c < cs.length) : dep cs c < cs.length := by
  have h1 := h.1 c hc
  have := depF_rank h cs.length c hc h1
  unfold dep
  omega
theorem callN_sorted (rs : List Rule) {i j : Nat} (hj : j < (callN rs).length) (hij : i < j) : (callN rs)[i] < (callN rs)[j] := by
  have hp : (callN rs).Pairwise (· < ·) := List.Pairwise.filter _ List.pairwise_lt_range
  exact List.pairwise_iff_getElem.1 hp i j (by omega) hj hij
theorem plain_FnCallsOf (code : List Int) (g : GAll GU8 code) : laws_FnCallsOf code = some true := by
  unfold laws_FnCallsOf
  refine draw_guard fun _ => ?_
  obtain ⟨s, a, e, hs, ha0, ha1⟩ := draw_callsof g
  obtain ⟨r, e1, e2, h1, h2⟩ := calls_is hs.ok a
  have hlen := hs.1
  rw [e]
  simp only [Option.bind_some, e1, e2, alive_is]
  by_cases hall : RSV s ∧ 0 ≤ a ∧ a < s.Chains.length
  · obtain ⟨hr, h0, hlt⟩ := hall
    obtain rfl := h1 hr h0 hlt
    obtain ⟨d, _, e4, hd⟩ := depth_is hs.ok a
    obtain rfl := hd hr h0 hlt
    obtain ⟨c, rfl⟩ := Int.eq_ofNat_of_zero_le h0
    have hc : c < s.Chains.length := by omega
    obtain ⟨ρ, hρ⟩ := ends_rank hr.1 hr.2
    have hcl := callN_len (ch s.Chains c)
    simp only [Int.toNat_natCast] at e4 ⊢
    rw [same_ints _ (by rw [castL_len]; omega), Option.bind_some, cond_true, e4, Option.bind_some]
    have eL : loopF (laws_FnCallsOf_L0 (s, (c : Int)) (castL (callN (ch s.Chains c))) ((dep s.Chains c : Nat) : Int)) ((((castL (callN (ch s.Chains c))).length : Int)) - 0).toNat.succ 0 = some (.brk ((callN (ch s.Chains c)).length : Int)) := by
      refine loop_brk0 (body := laws_FnCallsOf_L0 (s, (c : Int)) (castL (callN (ch s.Chains c))) ((dep s.Chains c : Nat) : Int)) (callN (ch s.Chains c)).length (fun k : Nat => (k : Int)) rfl (fun k hk => ?_) ?_ (by rw [castL_len]; omega)
      · have hcall : Calls s.Chains c (callN (ch s.Chains c))[k] := (callN_mem.1 (List.getElem_mem hk)).2
        have hdc := hρ.2 c _ hc hcall
        have hdd := (dep_iff hr.1 hρ hc (dep s.Chains c)).1 (Nat.le_refl _) _ hcall
        obtain ⟨d, _, e5, hd⟩ := depth_is hs.ok (((callN (ch s.Chains c))[k] : Nat) : Int)
        obtain rfl := hd hr (by omega) (by have := hdc.1; omega)
        rw [Int.toNat_natCast] at e5
        unfold laws_FnCallsOf_L0
        simp only [castL_len, lt_true (show (k : Int) < ((callN (ch s.Chains c)).length : Int) by omega), cond_true, castL_idx hk, Option.bind_some, e5]
        rw [decide_eq_false (by omega : ¬ (((dep s.Chains c : Nat) : Int) ≤ ((dep s.Chains (callN (ch s.Chains c))[k] : Nat) : Int))), cond_false]
        by_cases k0 : k = 0
        · subst k0; rfl
        · have hs := callN_sorted (ch s.Chains c) hk (show k - 1 < k by omega)
          rw [decide_eq_true (by omega : (0 : Int) < (k : Int)), cond_true, W_of (x := (k : Int) - 1) (by omega) (by omega), show (k : Int) - 1 = ((k - 1 : Nat) : Int) by omega, castL_idx (show k - 1 < (callN (ch s.Chains c)).length by omega), Option.bind_some, decide_eq_false (by omega), cond_false, W_succ (show k < 9223372036854775807 by omega)]
      · unfold laws_FnCallsOf_L0
        simp only [castL_len, lt_false (Int.le_refl _), cond_false]
    rw [eL, Option.bind_some]
    simp only [LR.on, castL_len]
    have hz : (decide ((0 : Int) < ((callN (ch s.Chains c)).length : Int)) == decide ((0 : Int) < ((dep s.Chains c : Nat) : Int))) = true := by
      have := dep_iff hr.1 hρ hc 0
      by_cases hn : (callN (ch s.Chains c)).length = 0
      · have hd0 : dep s.Chains c ≤ 0 := this.2 fun d hd => by
          have := hρ.2 c d hc hd
          have hm : d ∈ callN (ch s.Chains c) := callN_mem.2 ⟨by have := hr.1.n5; omega, hd⟩
          rw [List.eq_nil_of_length_eq_zero hn] at hm; cases hm
        rw [decide_eq_false (by omega), decide_eq_false (by omega)]; rfl
      · have hm := List.getElem_mem (show 0 < (callN (ch s.Chains c)).length by omega)
        have hd0 : ¬ dep s.Chains c ≤ 0 := fun h => by have := this.1 h _ (callN_mem.1 hm).2; omega
        rw [decide_eq_true (by omega), decide_eq_true (by omega)]; rfl
    rw [hz]; rfl
  · obtain rfl := h2 hall
    rw [same_ints _ (by simp), Option.bind_some, cond_true, depth_no hs.ok hall]
    rfl
theorem plain_FnCallDepth (code : List Int) (g : GAll GU8 code) : laws_FnCallDepth code = some true := by
  unfold laws_FnCallDepth
  refine draw_guard fun _ => ?_
  obtain ⟨s, a, e, hs, ha0, ha1⟩ := draw_callsof g
  obtain ⟨d, e1, e2, hd⟩ := depth_is hs.ok a
  obtain ⟨r, _, e3, h1, h2⟩ := calls_is hs.ok a
  have hlen := hs.1
  have ed : spec_DrawCallDepth code = some (s, a) := by unfold spec_DrawCallDepth; rw [e]; rfl
  rw [ed]
  simp only [Option.bind_some, e1, e2, e3, alive_is, bne_self_eq_false, cond_false]
  by_cases hall : RSV s ∧ 0 ≤ a ∧ a < s.Chains.length
  · obtain ⟨hr, h0, hlt⟩ := hall
    obtain rfl := h1 hr h0 hlt
    obtain rfl := hd hr h0 hlt
    obtain ⟨c, rfl⟩ := Int.eq_ofNat_of_zero_le h0
    have hc : c < s.Chains.length := by omega
    obtain ⟨ρ, hρ⟩ := ends_rank hr.1 hr.2
    have hcl := callN_len (ch s.Chains c)
    have hdl := dep_lt hρ hc
    simp only [Int.toNat_natCast]
    rw [decide_eq_false (by omega : ¬ (((dep s.Chains c : Nat) : Int) < 0)), cond_false]
    have eL : loopF (laws_FnCallDepth_L0 (s, (c : Int)) (castL (callN (ch s.Chains c)))) ((((castL (callN (ch s.Chains c))).length : Int)) - 0).toNat.succ (0, 0) = some (.brk (((dep s.Chains c : Nat) : Int), ((callN (ch s.Chains c)).length : Int))) := by
      have hfin : ((callN (ch s.Chains c)).map fun d => 1 + dep s.Chains d).foldl max 0 = dep s.Chains c := by
        have key : ∀ b, ((callN (ch s.Chains c)).map fun d => 1 + dep s.Chains d).foldl max 0 ≤ b ↔ dep s.Chains c ≤ b := fun b => by
          rw [foldl_max_le, dep_iff hr.1 hρ hc]
          constructor
          · intro ⟨_, hh⟩ d hd
            have := hρ.2 c d hc hd
            exact hh _ (List.mem_map.2 ⟨d, callN_mem.2 ⟨by have := hr.1.n5; omega, hd⟩, rfl⟩)
          · intro hh
            refine ⟨Nat.zero_le _, fun x hx => ?_⟩
            obtain ⟨d, hd, rfl⟩ := List.mem_map.1 hx
            exact hh d (callN_mem.1 hd).2
        exact Nat.le_antisymm ((key _).2 (Nat.le_refl _)) ((key _).1 (Nat.le_refl _))
      refine loop_brk0 (body := laws_FnCallDepth_L0 (s, (c : Int)) (castL (callN (ch s.Chains c)))) (callN (ch s.Chains c)).length (fun k : Nat => ((((((callN (ch s.Chains c)).take k).map fun d => 1 + dep s.Chains d).foldl max 0 : Nat) : Int), (k : Int))) rfl (fun k hk => ?_) ?_ (by rw [castL_len]; omega)
      · have hcall : Calls s.Chains c (callN (ch s.Chains c))[k] := (callN_mem.1 (List.getElem_mem hk)).2
        have hdc := hρ.2 c _ hc hcall
        obtain ⟨d, _, e5, hd⟩ := depth_is hs.ok (((callN (ch s.Chains c))[k] : Nat) : Int)
        obtain rfl := hd hr (by omega) (by have := hdc.1; omega)
        rw [Int.toNat_natCast] at e5
        have hdl := dep_lt hρ hdc.1
        unfold laws_FnCallDepth_L0
        simp only [castL_len, lt_true (show (k : Int) < ((callN (ch s.Chains c)).length : Int) by omega), cond_true, castL_idx hk, Option.bind_some, e5, W_succ (show k < 9223372036854775807 by omega)]
        rw [W_one_add (by omega), imax_nat, take_snoc (List.getElem?_eq_getElem hk), List.map_append, List.foldl_append]; rfl
      · unfold laws_FnCallDepth_L0
        simp only [castL_len, lt_false (Int.le_refl _), cond_false, List.take_length, hfin]
    rw [eL, Option.bind_some]
    simp only [LR.on, beq_self_eq_true, cond_true]
    rw [decide_eq_true (by omega)]
  · have := depth_no hs.ok hall
    rw [e2] at this
    obtain rfl := Option.some.inj this
    rfl
end Go.PF.F

/- Plain laws: numbers that are written over; ExactCallsOf, ExactChainsUsed. -/
namespace Go.PF.F
open Go Go.PF

/-- A loop that only counts. -/
theorem mark_gen {α : Type} (xs : List α) (inc : α → Nat) {body : Int × Int → Option (SR (Int × Int) Int)} (k0 : Nat) (hL : k0 + (xs.map inc).sum ≤ 4611686018427387904)
    (hb : ∀ (k j : Nat) (hj : j < xs.length), k + inc xs[j] ≤ 4611686018427387904 → body ((k : Int), (j : Int)) = some (.nxt (((k + inc xs[j] : Nat) : Int), ((j + 1 : Nat) : Int))))
    (he : ∀ k : Int, body (k, (xs.length : Int)) = some (.brk (k, (xs.length : Int)))) :
    loopF body (((xs.length : Int)) - 0).toNat.succ ((k0 : Int), 0) = some (.brk (((k0 + (xs.map inc).sum : Nat) : Int), (xs.length : Int))) := by
  refine loop_brk0 (body := body) xs.length (fun j : Nat => (((k0 + ((xs.take j).map inc).sum : Nat) : Int), (j : Int))) (by simp) (fun j hj => ?_) (by simp only [List.take_length]; exact he _) (by omega)
  have h1 : ((xs.take (j + 1)).map inc).sum = ((xs.take j).map inc).sum + inc xs[j] := by rw [take_snoc (List.getElem?_eq_getElem hj), List.map_append, List.sum_append]; simp
  have h2 : ((xs.take (j + 1)).map inc).sum + ((xs.drop (j + 1)).map inc).sum = (xs.map inc).sum := by rw [← List.sum_append, ← List.map_append, List.take_append_drop]
  rw [hb _ j hj (by omega), h1, Nat.add_assoc]
theorem sum_const {α : Type} (xs : List α) (c : Nat) : (xs.map fun _ => c).sum = c * xs.length := by
  induction xs with
  | nil => simp
  | cons x xs ih => rw [List.map_cons, List.sum_cons, ih, List.length_cons, Nat.mul_add]; omega
theorem sum_le_wt {α : Type} {inc wt : α → Nat} {c : Nat} (h : ∀ x, inc x ≤ c * (wt x + 1)) (xs : List α) : (xs.map inc).sum ≤ c * wtL wt xs := by
  unfold wtL
  induction xs with
  | nil => simp
  | cons x xs ih =>
    rw [List.map_cons, List.sum_cons, List.map_cons, List.sum_cons, List.length_cons]
    have := h x
    have e : c * (xs.length + 1 + (wt x + (xs.map wt).sum)) = c * (wt x + 1) + c * (xs.length + (xs.map wt).sum) := by rw [← Nat.mul_add]; congr 1; omega
    rw [e]
    omega
theorem W_k {k : Nat} (h : k + 1 ≤ 4611686018427387904) : W ((k : Int) + 1) = ((k + 1 : Nat) : Int) := W_succ (by omega)
theorem mark_TestS (xs : List Test) (k : Nat) (h : k + 4 * xs.length ≤ 4611686018427387904) : laws_markTestS xs (k : Int) = some (((k + 4 * xs.length : Nat) : Int)) := by
  unfold laws_markTestS
  rw [mark_gen xs (fun _ => 4) k (by rw [sum_const]; exact h) (fun k j hj hk => by
    unfold laws_markTestS_L0
    simp only [lt_true (show (j : Int) < (xs.length : Int) by omega), cond_true, idx_get hj, Option.bind_some]
    rw [W_k (k := k) (by omega), W_k (k := k + 1) (by omega), W_k (k := k + 1 + 1) (by omega), W_k (k := k + 1 + 1 + 1) (by omega), W_succ (show j < 9223372036854775807 by omega)]) (fun k => by
    unfold laws_markTestS_L0
    simp only [lt_false (Int.le_refl _), cond_false]), sum_const]
  rfl
def mkR (rs : List Rule) : Nat := (rs.map fun r => 4 * r.Tests.length + 2).sum
theorem mark_RuleS (xs : List Rule) (hn : xs.length ≤ 4611686018427387904) (k : Nat) (h : k + mkR xs ≤ 4611686018427387904) : laws_markRuleS xs (k : Int) = some (((k + mkR xs : Nat) : Int)) := by
  unfold laws_markRuleS
  rw [mark_gen xs (fun r => 4 * r.Tests.length + 2) k h (fun k j hj hk => by
    unfold laws_markRuleS_L0
    simp only [lt_true (show (j : Int) < (xs.length : Int) by omega), cond_true, idx_get hj, Option.bind_some, mark_TestS xs[j].Tests k (by omega)]
    rw [W_k (k := k + 4 * xs[j].Tests.length) (by omega), W_k (k := k + 4 * xs[j].Tests.length + 1) (by omega), W_succ (show j < 9223372036854775807 by omega)]
    rfl) (fun k => by
    unfold laws_markRuleS_L0
    simp only [lt_false (Int.le_refl _), cond_false])]
  rfl
theorem mkR_le (rs : List Rule) : mkR rs ≤ 6 * wRuleS rs := sum_le_wt (fun r => by unfold wRule; omega) rs
def mkRS (cs : List (List Rule)) : Nat := (cs.map mkR).sum
theorem mkRS_le (cs : List (List Rule)) : mkRS cs ≤ 6 * wRuleSS cs := sum_le_wt (fun rs => by have := mkR_le rs; omega) cs
theorem mark_RuleSS (xs : List (List Rule)) (hn : xs.length ≤ 4611686018427387904) (hx : ∀ rs ∈ xs, rs.length ≤ 4611686018427387904) (k : Nat) (h : k + mkRS xs ≤ 4611686018427387904) : laws_markRuleSS xs (k : Int) = some (((k + mkRS xs : Nat) : Int)) := by
  unfold laws_markRuleSS
  rw [mark_gen xs mkR k h (fun k j hj hk => by
    unfold laws_markRuleSS_L0
    simp only [lt_true (show (j : Int) < (xs.length : Int) by omega), cond_true, idx_get hj, Option.bind_some, mark_RuleS xs[j] (hx _ (List.getElem_mem hj)) k hk]
    rw [W_succ (show j < 9223372036854775807 by omega)]) (fun k => by
    unfold laws_markRuleSS_L0
    simp only [lt_false (Int.le_refl _), cond_false])]
  rfl
theorem mark_Rs {s : Ruleset} (h : wRs s ≤ 1048576) : ∃ k : Nat, laws_markRuleset s 1 = some (k : Int) := by
  have h1 := mkRS_le s.Chains
  have h2 : wRuleSS s.Chains ≤ 1048576 := h
  have hs := wtL_small h2
  have e := mark_RuleSS s.Chains (by omega) (fun rs hr => by have := hs.2 rs hr; have := wtL_small this; omega) 1 (by omega)
  refine ⟨1 + mkRS s.Chains, ?_⟩
  unfold laws_markRuleset
  have e' : laws_markRuleSS s.Chains (1 : Int) = some _ := e
  rw [e']; rfl
/-- The list with numbers written over. -/
def markL {α : Type} (f : Nat → α → α) (c : Nat) : Nat → List α → List α
  | _, [] => []
  | k, x :: xs => f k x :: markL f c (k + c) xs
theorem markL_len {α : Type} (f : Nat → α → α) (c : Nat) : ∀ (k : Nat) (xs : List α), (markL f c k xs).length = xs.length
  | _, [] => rfl
  | k, x :: xs => by rw [markL, List.length_cons, markL_len f c, List.length_cons]
theorem markL_app {α : Type} (f : Nat → α → α) (c : Nat) : ∀ (k : Nat) (xs ys : List α), markL f c k (xs ++ ys) = markL f c k xs ++ markL f c (k + c * xs.length) ys
  | k, [], ys => by simp [markL]
  | k, x :: xs, ys => by
    rw [List.cons_append, markL, markL_app f c, markL, List.cons_append, List.length_cons]
    congr 3
    rw [Nat.mul_add]; omega
theorem markL_get {α : Type} (f : Nat → α → α) (c : Nat) : ∀ (k : Nat) (xs : List α) (j : Nat) (hj : j < xs.length), (markL f c k xs)[j]'(by rw [markL_len]; exact hj) = f (k + c * j) xs[j]
  | k, x :: xs, 0, _ => by simp [markL]
  | k, x :: xs, j + 1, hj => by
    simp only [markL, List.getElem_cons_succ]
    rw [markL_get f c (k + c) xs j (by simpa using hj)]
    congr 1
    rw [Nat.mul_add]; omega
theorem mark_own {α : Type} {f : Nat → α → α} {c : Nat} (xs : List α) {body : Int × Int × List α → Option (SR (Int × Int × List α) (Int × List α))} (k0 : Nat) (hL : k0 + c * xs.length ≤ 4611686018427387904)
    (hb : ∀ (k j : Nat) (ys : List α) (hj : j < ys.length), ys.length = xs.length → k + c ≤ 4611686018427387904 → body ((k : Int), (j : Int), ys) = some (.nxt (((k + c : Nat) : Int), ((j + 1 : Nat) : Int), ys.set j (f k ys[j]))))
    (he : ∀ (k : Int) (ys : List α), ys.length = xs.length → body (k, (xs.length : Int), ys) = some (.brk (k, (xs.length : Int), ys))) :
    loopF body (((xs.length : Int)) - 0).toNat.succ ((k0 : Int), 0, xs) = some (.brk (((k0 + c * xs.length : Nat) : Int), (xs.length : Int), markL f c k0 xs)) := by
  refine loop_brk0 (body := body) xs.length (fun j : Nat => (((k0 + c * j : Nat) : Int), (j : Int), markL f c k0 (xs.take j) ++ xs.drop j)) (by simp [markL]) (fun j hj => ?_) (by
    simp only [List.take_length, List.drop_length, List.append_nil]
    exact he _ _ (markL_len f c _ _)) (by omega)
  have hlen : (markL f c k0 (xs.take j) ++ xs.drop j).length = xs.length := by
    rw [List.length_append, markL_len, ← List.length_append, List.take_append_drop]
  have hml : (markL f c k0 (xs.take j)).length = j := by rw [markL_len, List.length_take]; omega
  have hj' : j < (markL f c k0 (xs.take j) ++ xs.drop j).length := by omega
  have hcj : k0 + c * j + c ≤ 4611686018427387904 := by
    have : c * (j + 1) ≤ c * xs.length := Nat.mul_le_mul_left c hj
    rw [Nat.mul_add] at this; omega
  have hg : (markL f c k0 (xs.take j) ++ xs.drop j)[j] = xs[j] := by
    rw [List.getElem_append_right (by omega)]
    simp [hml]
  rw [hb _ j _ hj' hlen hcj, hg]
  have hd : xs.drop j = xs[j] :: xs.drop (j + 1) := List.drop_eq_getElem_cons hj
  have e1 : (markL f c k0 (xs.take j) ++ xs.drop j).set j (f (k0 + c * j) xs[j]) = markL f c k0 (xs.take (j + 1)) ++ xs.drop (j + 1) := by
    rw [hd, List.set_append_right _ _ (by omega), hml, Nat.sub_self, List.set_cons_zero, take_snoc (List.getElem?_eq_getElem hj), markL_app, List.append_assoc]
    have : (xs.take j).length = j := by rw [List.length_take]; omega
    rw [this]; rfl
  rw [e1, Nat.mul_add, Nat.mul_one, Nat.add_assoc]
theorem held_gen {α : Type} (zs : List α) {body : Int × Int → Option (SR (Int × Int) Int)} (c k0 : Nat)
    (hb : ∀ (j : Nat), j < zs.length → body (((k0 + c * j : Nat) : Int), (j : Int)) = some (.nxt (((k0 + c * j + c : Nat) : Int), ((j + 1 : Nat) : Int))))
    (he : ∀ k : Int, body (k, (zs.length : Int)) = some (.brk (k, (zs.length : Int)))) :
    loopF body (((zs.length : Int)) - 0).toNat.succ ((k0 : Int), 0) = some (.brk (((k0 + c * zs.length : Nat) : Int), (zs.length : Int))) := by
  refine loop_brk0 (body := body) zs.length (fun j : Nat => (((k0 + c * j : Nat) : Int), (j : Int))) (by simp) (fun j hj => ?_) (he _) (by omega)
  rw [hb j hj, Nat.mul_add, Nat.mul_one, Nat.add_assoc]
def fInt : Nat → Int → Int := fun k _ => (k : Int)
theorem mark_ints (xs : List Int) (h : 1 + xs.length ≤ 4611686018427387904) : laws_markIntS_r xs 1 = some (((1 + 1 * xs.length : Nat) : Int), markL fInt 1 1 xs) := by
  unfold laws_markIntS_r
  have := mark_own (f := fInt) (c := 1) xs (body := laws_markIntS_r_L0) 1 (by omega) (fun k j ys hj hl hk => by
    unfold laws_markIntS_r_L0
    simp only [lt_true (show (j : Int) < (ys.length : Int) by omega), cond_true, idx_get hj, Option.bind_some, Int.toNat_natCast]
    rw [W_k (by omega), W_succ (show j < 9223372036854775807 by omega)]; rfl) (fun k ys hl => by
    unfold laws_markIntS_r_L0
    simp only [hl, lt_false (Int.le_refl _), cond_false])
  have this' : loopF laws_markIntS_r_L0 (((xs.length : Int)) - 0).toNat.succ ((1 : Int), 0, xs) = some _ := this
  rw [this']; rfl
theorem held_ints (xs : List Int) (h : 1 + xs.length ≤ 4611686018427387904) : laws_heldIntS (markL fInt 1 1 xs) 1 = some (((1 + 1 * xs.length : Nat) : Int)) := by
  unfold laws_heldIntS
  have hl := markL_len fInt 1 1 xs
  have := held_gen (markL fInt 1 1 xs) (body := laws_heldIntS_L0 (markL fInt 1 1 xs)) 1 1 (fun j hj => by
    have hj' : j < xs.length := by omega
    unfold laws_heldIntS_L0
    simp only [lt_true (show (j : Int) < ((markL fInt 1 1 xs).length : Int) by omega), cond_true, idx_get hj, Option.bind_some, markL_get fInt 1 1 xs j hj']
    rw [show (fInt (1 + 1 * j) xs[j] != ((1 + 1 * j : Nat) : Int)) = false by unfold fInt; simp, cond_false, W_k (by omega), W_succ (show j < 9223372036854775807 by omega)]) (fun k => by
    unfold laws_heldIntS_L0
    simp only [lt_false (Int.le_refl _), cond_false])
  have this' : loopF (laws_heldIntS_L0 (markL fInt 1 1 xs)) ((((markL fInt 1 1 xs).length : Int)) - 0).toNat.succ ((1 : Int), 0) = some _ := this
  rw [this', hl]; rfl
theorem eq_ints (xs : List Int) (h : xs.length ≤ 9223372036854775807) : laws_eqIntS xs xs = some true := by
  have := eq_list (f := fun x y => some (decide (x = y))) (body := laws_eqIntS_L0 xs xs) xs xs h (fun _ _ _ _ => rfl) (fun k => ?_)
  · unfold laws_eqIntS
    rw [this]; simp
  · unfold laws_eqIntS_L0
    congr 1
    cases idx xs k with
    | none => rfl
    | some x => simp
theorem plain_FnExactCallsOf (a : Ruleset) (b : Int) (ga : G_Ruleset a) (_gb : GInt b) : laws_FnExactCallsOf a b = some true := by
  have ha := rs_of_G ga
  unfold laws_FnExactCallsOf
  rw [sz_Rs (by decide) (by decide) ha, Option.bind_some]
  by_cases hs : wRs a ≤ 1048576
  · obtain ⟨r, e1, e2, h1, h2⟩ := calls_is ha b
    have hr : r.length ≤ 5 := by
      by_cases hall : RSV a ∧ 0 ≤ b ∧ b < a.Chains.length
      · rw [h1 hall.1 hall.2.1 hall.2.2, castL_len]; exact callN_len _
      · rw [h2 hall]; simp
    obtain ⟨k, ek⟩ := mark_Rs hs
    have e2' : impl_CallsOf ({ Chains := a.Chains, Accept := a.Accept } : Ruleset) b = some r := e2
    have e3' : laws_eqRuleset ({ Chains := a.Chains, Accept := a.Accept } : Ruleset) a = some true := eq_Rs a ha
    rw [left_pos hs, cond_false, to_Rs (sm_Rs hs), Option.bind_some, e1, Option.bind_some, e2', Option.bind_some, eq_ints r (by omega), Option.bind_some, cond_true, e3', Option.bind_some, cond_true, ek, Option.bind_some, decide_eq_false (by omega : ¬ ((k : Int) < 0)), cond_false, mark_ints r (by omega), Option.bind_some, held_ints r (by omega), Option.bind_some, decide_eq_false (by omega : ¬ (((1 + 1 * r.length : Nat) : Int) < 0)), cond_false, bne_self_eq_false, cond_false, Option.bind_some, eq_ints r (by omega)]
    rfl
  · rw [left_neg hs]; rfl
theorem plain_FnExactChainsUsed (a : Ruleset) (ga : G_Ruleset a) : laws_FnExactChainsUsed a = some true := by
  have ha := rs_of_G ga
  unfold laws_FnExactChainsUsed
  rw [sz_Rs (by decide) (by decide) ha, Option.bind_some]
  by_cases hs : wRs a ≤ 1048576
  · obtain ⟨r, e1, e2, h1, h2⟩ := used_is ha
    have hr : r.length ≤ 5 := by
      by_cases hall : RSV a
      · rw [h1 hall, castL_len]
        have := usedN_len (cs := a.Chains)
        have := hall.1.n5
        omega
      · rw [h2 hall]; simp
    obtain ⟨k, ek⟩ := mark_Rs hs
    have e2' : impl_ChainsUsed ({ Chains := a.Chains, Accept := a.Accept } : Ruleset) = some r := e2
    have e3' : laws_eqRuleset ({ Chains := a.Chains, Accept := a.Accept } : Ruleset) a = some true := eq_Rs a ha
    rw [left_pos hs, cond_false, to_Rs (sm_Rs hs), Option.bind_some, e1, Option.bind_some, e2', Option.bind_some, eq_ints r (by omega), Option.bind_some, cond_true, e3', Option.bind_some, cond_true, ek, Option.bind_some, decide_eq_false (by omega : ¬ ((k : Int) < 0)), cond_false, mark_ints r (by omega), Option.bind_some, held_ints r (by omega), Option.bind_some, decide_eq_false (by omega : ¬ (((1 + 1 * r.length : Nat) : Int) < 0)), cond_false, bne_self_eq_false, cond_false, Option.bind_some, eq_ints r (by omega)]
    rfl
  · rw [left_neg hs]; rfl
end Go.PF.F

/- Plain laws: what meetings and boxes of tests have. -/
namespace Go.PF.F
open Go Go.PF

theorem has_testsS {ts : List Test} (h : ∀ t ∈ ts, TV t) {k : Nat} (hk : k < 4) (v : Int) : has (sd (testsS ts) k) v = (decide (0 ≤ v ∧ v ≤ topOf k) && ts.all fun t => t.Field.toNat != k || has (testL t) v) := by
  unfold testsS
  rw [has_tests ts fullS v h full_B4 hk, has_full hk]
theorem B4.ext {s t : List (List Span)} (hs : B4 s) (ht : B4 t) (h : ∀ k, k < 4 → ∀ v, has (sd s k) v = has (sd t k) v) : s = t :=
  ext4 hs.1 ht.1 fun k hk => (hs.2 k hk).ext (ht.2 k hk) (h k hk)
theorem testsS_same {ts ts' : List Test} (h : ∀ t ∈ ts, TV t) (h' : ∀ t ∈ ts', TV t) (e : ∀ t, t ∈ ts ↔ t ∈ ts') : testsS ts = testsS ts' :=
  (testsS_B4 h).ext (testsS_B4 h') fun k hk v => by
    rw [has_testsS h hk, has_testsS h' hk]
    congr 1
    rw [Bool.eq_iff_iff]
    simp only [List.all_eq_true]
    exact ⟨fun a t ht => a t ((e t).2 ht), fun a t ht => a t ((e t).1 ht)⟩
theorem has_meetS {a b : List (List Span)} {k : Nat} (hk : k < 4) (v : Int) : has (sd (meetS a b) k) v = (has (sd a k) v && has (sd b k) v) := by
  unfold meetS; rw [sd_mk4 _ hk, has_meetL]
theorem testsS_app {a b : List Test} (ha : ∀ t ∈ a, TV t) (hb : ∀ t ∈ b, TV t) : meetS (testsS a) (testsS b) = testsS (a ++ b) := by
  have hab : ∀ t ∈ a ++ b, TV t := fun t ht => (List.mem_append.1 ht).elim (ha t) (hb t)
  refine ((testsS_B4 ha).meet (testsS_B4 hb)).ext (testsS_B4 hab) fun k hk v => ?_
  rw [has_meetS hk, has_testsS ha hk, has_testsS hb hk, has_testsS hab hk, List.all_append]
  cases decide (0 ≤ v ∧ v ≤ topOf k) <;> simp
theorem meetS_comm {a b : List (List Span)} (ha : B4 a) (hb : B4 b) : meetS a b = meetS b a :=
  (ha.meet hb).ext (hb.meet ha) fun k hk v => by rw [has_meetS hk, has_meetS hk, Bool.and_comm]
theorem meetS_assoc {a b c : List (List Span)} (ha : B4 a) (hb : B4 b) (hc : B4 c) : meetS (meetS a b) c = meetS a (meetS b c) :=
  ((ha.meet hb).meet hc).ext (ha.meet (hb.meet hc)) fun k hk v => by rw [has_meetS hk, has_meetS hk, has_meetS hk, has_meetS hk, Bool.and_assoc]
theorem meetS_self {a : List (List Span)} (ha : B4 a) : meetS a a = a :=
  (ha.meet ha).ext ha fun k hk v => by rw [has_meetS hk, Bool.and_self]
theorem within_of {a b : List (List Span)} (ha : B4 a) (hb : B4 b) (h : ∀ k, k < 4 → ∀ v, has (sd a k) v = true → has (sd b k) v = true) : Within a b := .inr fun k hk => (less_nil_iff ha hb hk).2 (h k hk)
theorem within_meet {a b : List (List Span)} (ha : B4 a) (hb : B4 b) : Within (meetS a b) a := within_of (ha.meet hb) ha fun k hk v h => by
  rw [has_meetS hk, Bool.and_eq_true] at h; exact h.1
theorem within_meet' {a b : List (List Span)} (ha : B4 a) (hb : B4 b) : Within (meetS a b) b := within_of (ha.meet hb) hb fun k hk v h => by
  rw [has_meetS hk, Bool.and_eq_true] at h; exact h.2
theorem within_self {a : List (List Span)} (ha : B4 a) : Within a a := within_of ha ha fun _ _ _ h => h
theorem within_full {a : List (List Span)} (ha : B4 a) : Within a fullS := within_of ha full_B4 fun k hk v h => by
  rw [has_full hk]; exact decide_eq_true ((ha.2 k hk).bound h)
theorem BH_meet {a b : List (List Span)} (ha : B4 a) (hb : B4 b) {p : Packet} : BH ⟨meetS a b⟩ p ↔ BH ⟨a⟩ p ∧ BH ⟨b⟩ p := by
  rw [BH_iff (b := ⟨meetS a b⟩) (ha.meet hb).1, BH_iff (b := ⟨a⟩) ha.1, BH_iff (b := ⟨b⟩) hb.1]
  constructor
  · intro h
    refine ⟨fun k hk => ?_, fun k hk => ?_⟩ <;>
    · have := h k hk
      simp only [has_meetS hk, Bool.and_eq_true] at this
      first | exact this.1 | exact this.2
  · intro h k hk
    have h1 := h.1 k hk
    have h2 := h.2 k hk
    simp only at h1 h2 ⊢
    rw [has_meetS hk, h1, h2]; rfl
theorem BH_within {a b : List (List Span)} (ha : B4 a) (hb : B4 b) (h : Within a b) {p : Packet} (hp : BH ⟨a⟩ p) : BH ⟨b⟩ p := by
  rw [BH_iff (b := ⟨a⟩) ha.1] at hp
  rw [BH_iff (b := ⟨b⟩) hb.1]
  intro k hk
  rcases h with ⟨j, hj, e⟩ | h
  · have := hp j hj
    simp only at this
    rw [e] at this; cases this
  · exact (less_nil_iff ha hb hk).1 (h k hk) _ (hp k hk)
theorem TH_iff {t : Test} (ht : TV t) {p : Packet} (hp : PV p) : has (testL t) (pf p t.Field.toNat) = true ↔ TH t p := by
  rw [has_test ht, decide_eq_true (pf_range hp ht.field.2), Bool.true_and]; rfl
theorem BH_tests {ts : List Test} (h : ∀ t ∈ ts, TV t) {p : Packet} (hp : PV p) : BH ⟨testsS ts⟩ p ↔ ∀ t ∈ ts, TH t p := by
  rw [BH_iff (b := ⟨testsS ts⟩) (testsS_B4 h).1]
  constructor
  · intro hh t ht
    have hv := h t ht
    have := hh t.Field.toNat hv.field.2
    simp only at this
    rw [has_testsS h hv.field.2, Bool.and_eq_true, List.all_eq_true] at this
    have := this.2 t ht
    simp only [bne_self_eq_false, Bool.false_or] at this
    exact (TH_iff hv hp).1 this
  · intro hh k hk
    show has (sd (testsS ts) k) (pf p k) = true
    rw [has_testsS h hk, decide_eq_true (pf_range hp hk), Bool.true_and, List.all_eq_true]
    intro t ht
    by_cases hf : t.Field.toNat = k
    · subst hf
      rw [(TH_iff (h t ht) hp).2 (hh t ht), Bool.or_true]
    · simp [hf]
/-- The packet with the smallest values. -/
def firstP (s : List (List Span)) : Packet := ⟨(firstOf (sd s 0)).1, (firstOf (sd s 1)).1, (firstOf (sd s 2)).1, (firstOf (sd s 3)).1⟩
theorem pf_first (s : List (List Span)) {k : Nat} (hk : k < 4) : pf (firstP s) k = (firstOf (sd s k)).1 := by
  match k, hk with
  | 0, _ => rfl
  | 1, _ => rfl
  | 2, _ => rfl
  | 3, _ => rfl
theorem first_has {top : Int} {xs : List Span} (h : Set0 top xs) (hn : xs ≠ []) : has xs (firstOf xs).1 = true ∧ ∀ v, has xs v = true → (firstOf xs).1 ≤ v := by
  cases xs with
  | nil => exact absurd rfl hn
  | cons x t =>
    refine ⟨?_, fun v hv => cn_has (lo := x.Lo) (xs := x :: t) ⟨Int.le_refl _, h.cn.2⟩ hv⟩
    show has (x :: t) x.Lo = true
    rw [has_cons, inS_iff.2 ⟨Int.le_refl _, h.cn.2.1⟩]; rfl
theorem PV_of {p : Packet} (h : ∀ k, k < 4 → 0 ≤ pf p k ∧ pf p k ≤ topOf k) : PV p := ⟨h 0 (by decide), h 1 (by decide), h 2 (by decide), h 3 (by decide)⟩
theorem BH_PV {s : List (List Span)} (hs : B4 s) {p : Packet} (h : BH ⟨s⟩ p) : PV p := PV_of fun k hk => (hs.2 k hk).bound ((BH_iff (b := ⟨s⟩) hs.1).1 h k hk)
theorem BH_first {s : List (List Span)} (hs : B4 s) (hn : ¬ emptyS s) : BH ⟨s⟩ (firstP s) := (BH_iff (b := ⟨s⟩) hs.1).2 fun k hk => by
  rw [pf_first s hk]; exact (first_has (hs.2 k hk) (not_emptyS hn hk)).1
theorem first_least {s : List (List Span)} (hs : B4 s) (hn : ¬ emptyS s) {p : Packet} (h : BH ⟨s⟩ p) {k : Nat} (hk : k < 4) : pf (firstP s) k ≤ pf p k := by
  rw [pf_first s hk]
  exact (first_has (hs.2 k hk) (not_emptyS hn hk)).2 _ ((BH_iff (b := ⟨s⟩) hs.1).1 h k hk)
theorem spec_first {b : Box} (hb : OkBox b) : (BV b ∧ ¬ emptyS b.Sides ∧ spec_BoxFirst b = some (firstP b.Sides, true)) ∨ (¬ (BV b ∧ ¬ emptyS b.Sides) ∧ spec_BoxFirst b = some (⟨0, 0, 0, 0⟩, false)) := by
  unfold spec_BoxFirst
  obtain ⟨v, e, hv⟩ := spec_box hb
  rw [e, Option.bind_some]
  cases v with
  | false => exact .inr ⟨fun h => by simpa using hv.2 h.1, rfl⟩
  | true =>
    have h4 := BV_iff.1 (hv.1 rfl)
    obtain ⟨q, e2, hq⟩ := spec_emp h4.1
    rw [cond_true, e2, Option.bind_some]
    cases q with
    | true => exact .inr ⟨fun h => h.2 (hq.1 rfl), rfl⟩
    | false =>
      have hn : ¬ emptyS b.Sides := fun h => by simpa using hq.2 h
      refine .inl ⟨hv.1 rfl, hn, ?_⟩
      have hx : ∀ k, k < 4 → ∃ x, idx (sd b.Sides k) 0 = some x ∧ x.Lo = (firstOf (sd b.Sides k)).1 := by
        intro k hk
        cases hs : sd b.Sides k with
        | nil => exact absurd hs (not_emptyS hn hk)
        | cons x t => exact ⟨x, rfl, rfl⟩
      obtain ⟨x0, e0, f0⟩ := hx 0 (by decide)
      obtain ⟨x1, e1, f1⟩ := hx 1 (by decide)
      obtain ⟨x2, e2', f2⟩ := hx 2 (by decide)
      obtain ⟨x3, e3, f3⟩ := hx 3 (by decide)
      unfold spec_l10First
      have i0 := sd_idx h4.1.1 (k := 0) (by decide)
      have i1 := sd_idx h4.1.1 (k := 1) (by decide)
      have i2 := sd_idx h4.1.1 (k := 2) (by decide)
      have i3 := sd_idx h4.1.1 (k := 3) (by decide)
      simp only [Int.natCast_zero, Int.natCast_one] at i0 i1
      rw [show ((2 : Nat) : Int) = 2 from rfl] at i2
      rw [show ((3 : Nat) : Int) = 3 from rfl] at i3
      simp only [cond_false, i0, i1, i2, i3, Option.bind_some, e0, e1, e2', e3, f0, f1, f2, f3]
      rfl
end Go.PF.F

/- Plain laws: boxes of tests, first packets, probes. -/
namespace Go.PF.F
open Go Go.PF

/-! Draws. -/
theorem draw_testsbox {code : List Int} (h : GAll GU8 code) : ∃ ts, spec_DrawTestsBox code = some ts ∧ ts.length ≤ 7 := by
  unfold spec_DrawTestsBox
  refine draw_open (R := fun m => ∃ ts : List Test, m = some ts ∧ ts.length ≤ 7) h fun xs hx => ?_
  exact Dr.run (R := fun m => ∃ ts : List Test, m = some ts ∧ ts.length ≤ 7) (dr_tests hx 0 9) (by decide) (by decide) fun a p ha _ _ => ⟨_, rfl, ha.1⟩
theorem draw_boxempty {code : List Int} (h : GAll GU8 code) : ∃ b, spec_DrawBoxEmpty code = some b ∧ OkB b := by
  unfold spec_DrawBoxEmpty
  refine draw_open (R := fun m => ∃ b : Box, m = some b ∧ OkB b) h fun xs hx => ?_
  exact Dr.run (R := fun m => ∃ b : Box, m = some b ∧ OkB b) (dr_box hx 0 9) (by decide) (by decide) fun a p ha _ _ => ⟨_, rfl, ha.1⟩
theorem draw_boxfirst {code : List Int} (h : GAll GU8 code) : ∃ b, spec_DrawBoxFirst code = some b ∧ OkB b := by
  unfold spec_DrawBoxFirst
  refine draw_open (R := fun m => ∃ b : Box, m = some b ∧ OkB b) h fun xs hx => ?_
  exact Dr.run (R := fun m => ∃ b : Box, m = some b ∧ OkB b) (dr_box hx 0 9) (by decide) (by decide) fun a p ha _ _ => ⟨_, rfl, ha.1⟩
theorem draw_regionvalid {code : List Int} (h : GAll GU8 code) : ∃ bs, spec_DrawRegionValid code = some bs ∧ BoxesSm bs := by
  unfold spec_DrawRegionValid
  refine draw_open (R := fun m => ∃ bs : List Box, m = some bs ∧ BoxesSm bs) h fun xs hx => ?_
  exact Dr.run (R := fun m => ∃ bs : List Box, m = some bs ∧ BoxesSm bs) (dr_region hx 0 2) (by decide) (by decide) fun a p ha _ _ => ⟨_, rfl, ha⟩

/-! Boxes of tests. -/
theorem impl_testSpans {t : Test} (h : TV t) : impl_Test_spans t = some (testL t) := by
  have ht := top_pos h.field.2
  have h2 := h.2
  unfold impl_Test_spans testL
  cases hn : t.Not with
  | false => rfl
  | true =>
    rw [cond_true, if_pos rfl]
    have e : impl_FieldTop t.Field = some (topOf t.Field.toNat) := by
      have := impl_top t.Field.toNat
      rwa [← h.field.1] at this
    simp only [e, Option.bind_some]
    unfold otherL otherL
    simp only
    rw [W_of (by omega) (by omega), W_of (by omega) (by omega)]
    by_cases h1 : 0 < t.Lo
    · rw [decide_eq_true h1, if_pos h1, cond_true, app_ok (by simp), Option.bind_some]
      by_cases h3 : t.Hi < topOf t.Field.toNat
      · rw [decide_eq_true h3, if_pos (by omega), cond_true, app_ok (by simp)]; rfl
      · rw [decide_eq_false h3, if_neg (by omega)]; rfl
    · rw [decide_eq_false h1, if_neg h1, cond_false]
      by_cases h3 : t.Hi < topOf t.Field.toNat
      · rw [decide_eq_true h3, if_pos (by omega), cond_true, app_ok (by simp)]; rfl
      · rw [decide_eq_false h3, if_neg (by omega)]; rfl
theorem impl_testsSides_is {ts : List Test} (h : TsV ts) : impl_testsSides ts = some (testsS ts) := by
  have hl : ts.length ≤ 6 := by have := h.2; omega
  unfold impl_testsSides
  rw [impl_all, Option.bind_some]
  have := loop_each (body := impl_testsSides_L0 ts) ts (fun s k => (k, s)) (fun s t => s.set t.Field.toNat (meetL (sd s t.Field.toNat) (testL t))) fullS (fun s => ((ts.length : Int), s)) (fuel := ((((ts.length : Int)) : Int) - 0).toNat.succ) (by omega)
    (fun k t hk ht => by
      have hv := h.1 t (List.mem_of_getElem? ht)
      have hs := testsS_ok (ts.take k) fullS (fun z hz => h.1 z (List.mem_of_mem_take hz)) full_B4
      have hlen := testsS_len (ts.take k) fullS (fun z hz => h.1 z (List.mem_of_mem_take hz)) full_B4 1 (fun j hj => by unfold fullS; rw [sd_mk4 _ hj]; simp) _ hv.field.2
      rw [List.length_take] at hlen
      generalize (ts.take k).foldl (fun s t => s.set t.Field.toNat (meetL (sd s t.Field.toNat) (testL t))) fullS = s at hs hlen
      have hi := sd_idx hs.1 hv.field.2
      rw [← hv.field.1] at hi
      have htop := impl_top t.Field.toNat
      rw [← hv.field.1] at htop
      have h2 := testL_len t
      have hm := (hs.2 _ hv.field.2).meet_few hv.set
      unfold impl_testsSides_L0
      simp only [lt_true (show (k : Int) < (ts.length : Int) by omega), cond_true, idx_nat, ht, Option.bind_some, hi, impl_testSpans hv, htop, impl_meet (hs.2 _ hv.field.2) hv.set, W_succ (show k < 9223372036854775807 by omega)]
      rw [if_pos (by omega)])
    (by
      unfold impl_testsSides_L0
      simp only [lt_false (Int.le_refl _), cond_false])
  rw [this]; rfl
theorem B4.few_len {s : List (List Span)} (h : B4 s) (hf : Few s) : ∀ x ∈ s, x.length ≤ 40 := fun x hx => (OkB.of h hf).2 x hx
theorem TsV.bv {ts : List Test} (h : TsV ts) : BV ⟨testsS ts⟩ := BV_iff.2 ⟨testsS_B4 h.1, testsS_few h⟩
theorem tb {ts : List Test} (hl : ts.length ≤ 1000) : ∃ b, impl_TestsBox ts = some b ∧ spec_TestsBox ts = some b ∧ OkBox b ∧ (TsV ts → b = ⟨testsS ts⟩) ∧ (¬ TsV ts → b = ⟨[]⟩) := by
  obtain ⟨v, e1, e2, hv⟩ := (impl_tests (xs := ts) (by omega)).same (spec_tests (xs := ts) (by omega))
  cases v with
  | true =>
    have h := hv.1 rfl
    refine ⟨⟨testsS ts⟩, ?_, spec_testsBox h, B4.ok (b := ⟨testsS ts⟩) (testsS_B4 h.1), fun _ => rfl, fun hn => absurd h hn⟩
    unfold impl_TestsBox
    rw [e1, Option.bind_some, cond_true, impl_testsSides_is h, Option.bind_some, impl_box4 (testsS_B4 h.1).1 fun x hx => by have := (testsS_B4 h.1).few_len (testsS_few h) x hx; omega]; rfl
  | false =>
    have h : ¬ TsV ts := fun h => by simpa using hv.2 h
    refine ⟨⟨[]⟩, ?_, ?_, ⟨by simp, by simp⟩, fun hy => absurd hy h, fun _ => rfl⟩
    · unfold impl_TestsBox; rw [e1]; rfl
    · unfold spec_TestsBox; rw [e2]; rfl

/-! Probes. -/
theorem probe_in (list : List Box) (hb : ∀ b ∈ list, OkBox b) {seed : Int} (h0 : 0 ≤ seed) (h1 : seed ≤ 1048576) {i : Nat} (hi : i < list.length) (_hi2 : i ≤ 1000) (y : List Int) (hy : y.length = 4) :
    ∃ k y', loopF (laws_probe_L1 list seed (i : Int)) (((4 : Int)) - 0).toNat.succ (0, y) = some (.brk (k, y')) ∧ y'.length = 4 := by
  obtain ⟨o, ho, k, y', rfl, hl⟩ := loop_idx (body := laws_probe_L1 list seed (i : Int)) 4 (fun k s => s.1 = (k : Int) ∧ s.2.length = 4) (fun o => ∃ k y', o = .brk (k, y') ∧ y'.length = 4) (s := (0, y)) ⟨rfl, hy⟩
    (fun k s hk ⟨e1, hl⟩ => by
      obtain ⟨k', y⟩ := s
      simp only at e1 hl
      subst e1
      have hbx := hb _ (List.getElem_mem hi)
      unfold laws_probe_L1
      simp only [lt_true (show (k : Int) < 4 by omega), cond_true, idx_get hi, Option.bind_some, W_succ (show k < 9223372036854775807 by omega)]
      by_cases hs : k < list[i].Sides.length
      · have hx2 := hbx.2 _ (List.getElem_mem hs)
        simp only [lt_true (show (k : Int) < (list[i].Sides.length : Int) by omega), cond_true, idx_get hs, Option.bind_some]
        by_cases hz : list[i].Sides[k].length = 0
        · rw [(by simp [hz] : ((list[i].Sides[k].length : Int) == 0) = true)]
          exact .inl ⟨_, rfl, rfl, hl⟩
        · rw [(by simp; exact fun e => hz (by rw [e]; rfl) : ((list[i].Sides[k].length : Int) == 0) = false), cond_false]
          by_cases h3 : (((W ((W (seed + i)) + k))).tmod 3 == 0) = true
          · rw [h3]; exact .inl ⟨_, rfl, rfl, hl⟩
          · rw [Bool.eq_false_iff.2 h3, cond_false]
            have hnz : nzF (list[i].Sides[k].length : Int) = some () := by
              unfold nzF
              rw [(by simp; exact fun e => hz (by rw [e]; rfl) : ((list[i].Sides[k].length : Int) == 0) = false)]; rfl
            have hw : W (seed + k) = seed + k := W_of (by omega) (by omega)
            have ht0 : 0 ≤ (seed + k).tmod (list[i].Sides[k].length : Int) := Int.tmod_nonneg _ (by omega)
            have ht1 : (seed + k).tmod (list[i].Sides[k].length : Int) < (list[i].Sides[k].length : Int) := Int.tmod_lt_of_pos _ (by omega)
            obtain ⟨j, hj⟩ := Int.eq_ofNat_of_zero_le ht0
            have hjl : j < list[i].Sides[k].length := by
              rw [hj] at ht1; exact Int.ofNat_lt.1 ht1
            have hky : k < y.length := by rw [hl]; exact hk
            simp only [hnz, hw, hj, Option.bind_some, idx_get hjl, idx_get hky, Int.toNat_natCast]
            cases ((W (seed + i)).tmod 2 == 0) with
            | false => exact .inl ⟨_, rfl, rfl, by simpa using hl⟩
            | true =>
              have hky2 : k < (y.set k (list[i].Sides[k])[j].Lo).length := by simpa using hky
              simp only [cond_true, idx_get hky2, Option.bind_some]
              exact .inl ⟨_, rfl, rfl, by simpa using hl⟩
      · rw [lt_false (by omega)]
        exact .inr (.inr ⟨_, rfl, _, _, rfl, hl⟩))
    (fun s ⟨e1, hl⟩ => by
      obtain ⟨k', y⟩ := s
      simp only at e1 hl
      subst e1
      exact .inl ⟨_, rfl, _, _, rfl, hl⟩)
  exact ⟨k, y', ho, hl⟩
theorem probe_ok {list : List Box} (hn : list.length ≤ 1000) (hb : ∀ b ∈ list, OkBox b) {seed : Int} (h0 : 0 ≤ seed) (h1 : seed ≤ 1048576) : ∃ p, laws_probe list seed = some p := by
  unfold laws_probe
  obtain ⟨o, ho, k, y', rfl, hl⟩ := loop_idx (body := laws_probe_L0 list seed) list.length (fun k s => s.1 = (k : Int) ∧ s.2.length = 4) (fun o => ∃ k y', o = .brk (k, y') ∧ y'.length = 4) (s := (0, [({ From := ((seed).tmod 65536), To := (((W ((seed).tdiv 3))).tmod 65536), Port := ((seed).tmod 256), Proto := ((seed).tmod 8) } : Packet).From, ({ From := ((seed).tmod 65536), To := (((W ((seed).tdiv 3))).tmod 65536), Port := ((seed).tmod 256), Proto := ((seed).tmod 8) } : Packet).To, ({ From := ((seed).tmod 65536), To := (((W ((seed).tdiv 3))).tmod 65536), Port := ((seed).tmod 256), Proto := ((seed).tmod 8) } : Packet).Port, ({ From := ((seed).tmod 65536), To := (((W ((seed).tdiv 3))).tmod 65536), Port := ((seed).tmod 256), Proto := ((seed).tmod 8) } : Packet).Proto])) ⟨rfl, rfl⟩
    (fun k s hk ⟨e1, hl⟩ => by
      obtain ⟨k', y⟩ := s
      simp only at e1 hl
      subst e1
      obtain ⟨k2, y2, e, hl2⟩ := probe_in list hb h0 h1 hk (by omega) y hl
      unfold laws_probe_L0
      simp only [lt_true (show (k : Int) < (list.length : Int) by omega), cond_true, W_succ (show k < 9223372036854775807 by omega)]
      rw [e]
      exact .inl ⟨_, rfl, rfl, hl2⟩)
    (fun s ⟨e1, hl⟩ => by
      obtain ⟨k', y⟩ := s
      simp only at e1 hl
      subst e1
      refine .inl ⟨((list.length : Int), y), ?_, _, _, rfl, hl⟩
      unfold laws_probe_L0
      simp only [lt_false (Int.le_refl _), cond_false])
  rw [ho]
  match y', hl with
  | [a, b, c, d], _ => exact ⟨_, rfl⟩
theorem more_seed {more : List Int} (h : ¬ (1048576 : Int) < (more.length : Int)) : (0 : Int) ≤ (more.length : Int) ∧ (more.length : Int) ≤ 1048576 := by omega

/-! The laws. -/
theorem plain_FnRegionValid (code : List Int) (g : GAll GU8 code) : laws_FnRegionValid code = some true := by
  unfold laws_FnRegionValid
  refine draw_guard fun _ => ?_
  obtain ⟨bs, e, h⟩ := draw_regionvalid g
  have h1 := h.1
  rw [e, Option.bind_some]
  refine valid_law (f := impl_RegionValid) (g := spec_RegionValid) (V := RV) (by omega) (fun ys hy hl => impl_region (by omega) fun b hb => ?_) (spec_region (by omega) fun b hb => (h.2 b hb).ok) (fun hv => ⟨fun b hb => hv.1 b (List.mem_of_mem_take hb), by have := hv.2; simp; omega⟩) (fun hv => ?_)
  · rcases hy b hb with hm | hm
    · exact (h.2 b hm).ok
    · rw [hm]; exact ⟨by simp, by simp⟩
  · have := (hv.1 (⟨[]⟩ : Box) (by simp)).1
    simp at this
theorem plain_FnTestsBox (code more : List Int) (g : GAll GU8 code) (_gm : GAll GU8 more) : laws_FnTestsBox code more = some true := by
  unfold laws_FnTestsBox
  refine draw_guard fun _ => draw_guard fun hm => ?_
  obtain ⟨ts, e, hl⟩ := draw_testsbox g
  obtain ⟨b, e1, e2, hok, hy, hn⟩ := tb (ts := ts) (by omega)
  obtain ⟨v, ev, hv⟩ := spec_tests (xs := ts) (by omega)
  rw [e]
  simp only [Option.bind_some, e1, e2, same_box _ _ hok, decide_true, cond_true, ev]
  cases v with
  | true =>
    have ht := hv.1 rfl
    have hb := hy ht
    subst hb
    obtain ⟨p, ep⟩ := probe_ok (list := [⟨testsS ts⟩]) (by simp) (fun b hb => by rw [List.mem_singleton.1 hb]; exact hok) (more_seed hm).1 (more_seed hm).2
    obtain ⟨q, eq, hq⟩ := impl_box hok
    obtain ⟨r, er, hr⟩ := impl_has hok p
    obtain ⟨s, es, hs⟩ := impl_thold (ts := ts) (by omega) p
    have hqt : q = true := hq.2 ht.bv
    have hrs : r = s := by
      rw [Bool.eq_iff_iff, hr, hs]
      exact ⟨fun h => ⟨ht, h.2.1, (BH_tests ht.1 h.2.1).1 h.2.2⟩, fun h => ⟨ht.bv, h.2.1, (BH_tests ht.1 h.2.1).2 h.2.2⟩⟩
    simp only [cond_true, ep, Option.bind_some, eq, er, es, hqt, hrs]
    simp
  | false =>
    rw [hn fun h => by simpa using hv.2 h]; rfl
def noneT : List Test := [({ Field := 3, Lo := 0, Hi := 2, Not := false } : Test), ({ Field := 3, Lo := 3, Hi := 3, Not := false } : Test)]
theorem noneT_ok : TsV noneT := by
  refine ⟨fun t ht => ?_, by decide⟩
  unfold noneT at ht
  rcases List.mem_cons.1 ht with rfl | ht
  · exact ⟨by decide, by decide, by decide⟩
  · rw [List.mem_singleton.1 ht]; exact ⟨by decide, by decide, by decide⟩
theorem noneT_none : sd (testsS noneT) 3 = [] := by
  have hB := (testsS_B4 noneT_ok.1).2 3 (by decide)
  refine nil_of_has hB.cn fun v => ?_
  rw [has_testsS noneT_ok.1 (by decide)]
  rw [Bool.eq_false_iff]
  intro h
  rw [Bool.and_eq_true, List.all_eq_true] at h
  have h1 := h.2 ⟨3, 0, 2, false⟩ (by simp [noneT])
  have h2 := h.2 ⟨3, 3, 3, false⟩ (by simp [noneT])
  rw [Bool.or_eq_true] at h1 h2
  have h1 := h1.resolve_left (by decide)
  have h2 := h2.resolve_left (by decide)
  rw [has_test (noneT_ok.1 _ (by simp [noneT]))] at h1 h2
  simp at h1 h2
  omega
theorem within_none {a b : List (List Span)} (ha : B4 a) (hb : B4 b) (he : emptyS b) : Within a b ↔ emptyS a := by
  refine ⟨fun h => ?_, fun h => .inl h⟩
  by_cases hn : emptyS a
  · exact hn
  · exfalso
    have h1 := BH_within ha hb h (BH_first ha hn)
    obtain ⟨k, hk, e⟩ := he
    have := (BH_iff (b := ⟨b⟩) hb.1).1 h1 k hk
    simp only at this
    rw [e] at this
    cases this
theorem plain_FnBoxEmpty (code : List Int) (g : GAll GU8 code) : laws_FnBoxEmpty code = some true := by
  unfold laws_FnBoxEmpty
  refine draw_guard fun _ => ?_
  obtain ⟨b, e, h⟩ := draw_boxempty g
  obtain ⟨v, e1, e2, hv⟩ := (impl_emptyb h.ok).same (spec_emptyb h.ok)
  obtain ⟨w, e3, hw⟩ := spec_box h.ok
  rw [e]
  simp only [Option.bind_some, e1, e2, bne_self_eq_false, cond_false, e3]
  cases w with
  | false =>
    have : v = false := by rw [Bool.eq_false_iff]; exact fun hh => by simpa using hw.2 (hv.1 hh).1
    rw [this]; rfl
  | true =>
    have hb := hw.1 rfl
    have h4 := (BV_iff.1 hb).1
    obtain ⟨r, er, ei⟩ := spec_BoxFirst_is h.ok
    obtain ⟨bn, en, _, hokn, hyn, _⟩ := tb (ts := noneT) (by decide)
    have hbn := hyn noneT_ok
    subst hbn
    have hne : emptyS (testsS noneT) := ⟨3, by decide, noneT_none⟩
    obtain ⟨q, eq, hq⟩ := impl_within h.ok hokn
    obtain ⟨z, ez, hz⟩ := impl_emptyb hokn
    have hzt : z = true := hz.2 ⟨noneT_ok.bv, hne⟩
    have hr : v = !r.2 := by
      rcases spec_first h.ok with ⟨_, hn, e5⟩ | ⟨hn, e5⟩
      · rw [er] at e5
        rw [Option.some.inj e5]
        simp only [Bool.not_true]
        rw [Bool.eq_false_iff]
        exact fun hh => hn (hv.1 hh).2
      · rw [er] at e5
        rw [Option.some.inj e5]
        simp only [Bool.not_false]
        refine hv.2 ⟨hb, ?_⟩
        exact Classical.byContradiction fun hc => hn ⟨hb, hc⟩
    have hvq : v = q := by
      rw [Bool.eq_iff_iff, hv, hq, within_none h4 (testsS_B4 noneT_ok.1) hne]
      exact ⟨fun hh => ⟨hb, noneT_ok.bv, hh.2⟩, fun hh => ⟨hb, hh.2.2⟩⟩
    have en' : impl_TestsBox [({ Field := 3, Lo := 0, Hi := 2, Not := false } : Test), ({ Field := 3, Lo := 3, Hi := 3, Not := false } : Test)] = some ⟨testsS noneT⟩ := en
    simp only [cond_true, ei, Option.bind_some, en', eq, ez, ← hr, ← hvq, hzt]
    simp
theorem plain_FnBoxFirst (code more : List Int) (g : GAll GU8 code) (_gm : GAll GU8 more) : laws_FnBoxFirst code more = some true := by
  unfold laws_FnBoxFirst
  refine draw_guard fun _ => draw_guard fun hm => ?_
  obtain ⟨b, e, h⟩ := draw_boxfirst g
  obtain ⟨r, er, ei⟩ := spec_BoxFirst_is h.ok
  rw [e]
  simp only [Option.bind_some, er, ei, decide_true, Bool.not_true, cond_false, bne_self_eq_false]
  rcases spec_first h.ok with ⟨hb, hn, e5⟩ | ⟨hn, e5⟩
  · rw [er] at e5
    obtain rfl := Option.some.inj e5
    have h4 := (BV_iff.1 hb).1
    have hf := BH_first h4 hn
    obtain ⟨p, ep⟩ := probe_ok (list := [b]) (by simp) (fun x hx => by rw [List.mem_singleton.1 hx]; exact h.ok) (more_seed hm).1 (more_seed hm).2
    obtain ⟨q, eq, hq⟩ := impl_has h.ok (firstP b.Sides)
    obtain ⟨s, es, hs⟩ := impl_has h.ok p
    have hqt : q = true := hq.2 ⟨hb, BH_PV (s := b.Sides) h4 hf, hf⟩
    simp only [cond_true, ep, Option.bind_some, eq, es, hqt]
    cases s with
    | false => rfl
    | true =>
      have hp := (hs.1 rfl).2.2
      have l0 : (firstP b.Sides).From ≤ p.From := first_least (s := b.Sides) h4 hn hp (k := 0) (by decide)
      have l1 : (firstP b.Sides).To ≤ p.To := first_least (s := b.Sides) h4 hn hp (k := 1) (by decide)
      have l2 : (firstP b.Sides).Port ≤ p.Port := first_least (s := b.Sides) h4 hn hp (k := 2) (by decide)
      have l3 : (firstP b.Sides).Proto ≤ p.Proto := first_least (s := b.Sides) h4 hn hp (k := 3) (by decide)
      rw [decide_eq_true l0, decide_eq_true l1, decide_eq_true l2, decide_eq_true l3]; rfl
  · rw [er] at e5
    obtain rfl := Option.some.inj e5
    rfl
theorem TsV.rev {ts : List Test} : TsV ts.reverse ↔ TsV ts := by
  unfold TsV
  simp
theorem plain_FnTestsOrder (code : List Int) (g : GAll GU8 code) : laws_FnTestsOrder code = some true := by
  unfold laws_FnTestsOrder
  refine draw_guard fun _ => ?_
  obtain ⟨ts, e, hl⟩ := draw_testsbox g
  obtain ⟨b, e1, e2, hok, hy, hn⟩ := tb (ts := ts) (by omega)
  obtain ⟨b', e1', _, hok', hy', hn'⟩ := tb (ts := ts.reverse) (by simp; omega)
  have hbb : b' = b := by
    by_cases hv : TsV ts
    · rw [hy hv, hy' (TsV.rev.2 hv), testsS_same (TsV.rev.2 hv).1 hv.1 fun t => List.mem_reverse]
    · rw [hn hv, hn' fun h => hv (TsV.rev.1 h)]
  subst hbb
  have hw : W ((ts.length : Int) - 1) = (ts.length : Int) - 1 := W_of (by omega) (by omega)
  have hloop : loopF (laws_FnTestsOrder_L0 ts) ((((ts.length : Int) - 1) : Int) + 1).toNat.succ (([] : List Test), ((ts.length : Int) - 1)) = some (.brk (ts.reverse, -1)) :=
    loop_brk0 (body := laws_FnTestsOrder_L0 ts) ts.length (fun k : Nat => (ts.reverse.take k, (ts.length : Int) - 1 - (k : Int))) (by simp) (fun k hk => by
      have hkr : k < ts.reverse.length := by simpa using hk
      have hi : idx ts ((ts.length : Int) - 1 - (k : Int)) = some ts.reverse[k] := by
        rw [show (ts.length : Int) - 1 - (k : Int) = ((ts.length - 1 - k : Nat) : Int) by omega, idx_get (by omega : ts.length - 1 - k < ts.length)]
        rw [List.getElem_reverse]
      unfold laws_FnTestsOrder_L0
      simp only [le_true (show (0 : Int) ≤ (ts.length : Int) - 1 - (k : Int) by omega), cond_true, hi, Option.bind_some]
      rw [app_ok (by simp; omega), take_snoc (List.getElem?_eq_getElem hkr), W_of (by omega) (by omega), show (ts.length : Int) - 1 - (k : Int) - 1 = (ts.length : Int) - 1 - ((k + 1 : Nat) : Int) by omega]; rfl) (by
      unfold laws_FnTestsOrder_L0
      simp only
      rw [le_false (by omega), cond_false, List.take_of_length_le (by simp), show (ts.length : Int) - 1 - (ts.length : Int) = -1 by omega]) (by rw [show (ts.length : Int) - 1 + 1 = (ts.length : Int) by omega]; simp)
  rw [e]
  simp only [Option.bind_some, e1, e2, same_box _ _ hok, decide_true, cond_true, hw, hloop, LR.on, e1', alive_is]
end Go.PF.F

/- Plain laws: tests of boxes. -/
namespace Go.PF.F
open Go Go.PF

/-- The tests of a field: none if it has all values. -/
def fieldT (n : Nat) : List Span → Option (List Test)
  | [x] => some (if x = ⟨0, topOf n⟩ then [] else [⟨(n : Int), x.Lo, x.Hi, false⟩])
  | [x, y] => if x.Lo = 0 ∧ y.Hi = topOf n then some [⟨(n : Int), x.Hi + 1, y.Lo - 1, true⟩] else none
  | _ => none
def boxT (s : List (List Span)) : Nat → Option (List Test)
  | 0 => some []
  | k + 1 => (boxT s k).bind fun y => (fieldT k (sd s k)).map fun t => y ++ t
theorem fieldT_len {n : Nat} {s : List Span} {t : List Test} (h : fieldT n s = some t) : t.length ≤ 1 := by
  match s, h with
  | [x], h =>
    have h := Option.some.inj h
    subst h
    split <;> simp
  | [x, y], h =>
    simp only [fieldT] at h
    split at h
    · rw [← Option.some.inj h]; simp
    · cases h
theorem fieldT_field {n : Nat} {s : List Span} {t : List Test} (h : fieldT n s = some t) : ∀ x ∈ t, x.Field = (n : Int) := by
  match s, h with
  | [x], h =>
    have h := Option.some.inj h
    subst h
    split <;> simp
  | [x, y], h =>
    simp only [fieldT] at h
    split at h
    · rw [← Option.some.inj h]; simp
    · cases h
theorem fieldT_TV {n : Nat} (hn : n < 4) {s : List Span} (hs : Set0 (topOf n) s) {t : List Test} (h : fieldT n s = some t) : ∀ x ∈ t, TV x := by
  match s, hs, h with
  | [x], hs, h =>
    have h := Option.some.inj h
    subst h
    have hm := hs.mem (x := x) (List.mem_singleton.2 rfl)
    intro z hz
    split at hz
    · cases hz
    · rw [List.mem_singleton.1 hz]
      exact ⟨⟨by simp only; omega, by simp only; omega⟩, ⟨hm.1, hm.2.1⟩, by simp only [Int.toNat_natCast]; exact hm.2.2⟩
  | [x, y], hs, h =>
    simp only [fieldT] at h
    split at h
    · rw [← Option.some.inj h]
      have hx := hs.mem (x := x) (by simp)
      have hy := hs.mem (x := y) (by simp)
      have hc := hs.cn.2.2.1
      intro z hz
      rw [List.mem_singleton.1 hz]
      exact ⟨⟨by simp only; omega, by simp only; omega⟩, ⟨by simp only; omega, by simp only; omega⟩, by simp only [Int.toNat_natCast]; omega⟩
    · cases h
theorem fieldT_has {n : Nat} (hn : n < 4) {s : List Span} (hs : Set0 (topOf n) s) {t : List Test} (h : fieldT n s = some t) (v : Int) : (decide (0 ≤ v ∧ v ≤ topOf n) && t.all fun x => has (testL x) v) = has s v := by
  have htv := fieldT_TV hn hs h
  match s, hs, h with
  | [x], hs, h =>
    have h := Option.some.inj h
    subst h
    have hm := hs.mem (x := x) (List.mem_singleton.2 rfl)
    rw [has_cons, has_nil, Bool.or_false]
    split at htv
    · rename_i e
      rw [if_pos e, e]
      unfold inS
      simp
    · rename_i e
      rw [if_neg e, List.all_cons, List.all_nil, Bool.and_true, has_test (htv _ (List.mem_singleton.2 rfl))]
      simp only [Int.toNat_natCast]
      unfold inS
      rw [Bool.eq_iff_iff]
      simp only [Bool.and_eq_true, decide_eq_true_eq, Bool.bne_false]
      omega
  | [x, y], hs, h =>
    simp only [fieldT] at h
    split at h
    · rename_i e
      have h := Option.some.inj h
      subst h
      have hx := hs.mem (x := x) (by simp)
      have hy := hs.mem (x := y) (by simp)
      have hc := hs.cn.2.2.1
      rw [has_cons, has_cons, has_nil, Bool.or_false, List.all_cons, List.all_nil, Bool.and_true, has_test (htv _ (List.mem_singleton.2 rfl))]
      simp only [Int.toNat_natCast]
      unfold inS
      rw [Bool.eq_iff_iff]
      simp only [Bool.and_eq_true, Bool.or_eq_true, decide_eq_true_eq, Bool.bne_true, Bool.not_eq_true', decide_eq_false_iff_not]
      omega
    · cases h
/-- What the tests of the first k fields are. -/
structure BT (s : List (List Span)) (k : Nat) (ts : List Test) : Prop where
  len : ts.length ≤ k
  field : ∀ t ∈ ts, 0 ≤ t.Field ∧ t.Field < (k : Int)
  asc : ts.Pairwise fun a b => a.Field < b.Field
  tv : ∀ t ∈ ts, TV t
  has : ∀ j, j < k → ∀ v, (decide (0 ≤ v ∧ v ≤ topOf j) && ts.all fun t => t.Field.toNat != j || F.has (testL t) v) = F.has (sd s j) v
theorem boxT_BT {s : List (List Span)} (hs : B4 s) : ∀ {k : Nat} {ts : List Test}, k ≤ 4 → boxT s k = some ts → BT s k ts
  | 0, ts, _, h => by
    have h := Option.some.inj h
    subst h
    exact ⟨Nat.le_refl _, fun t ht => (by cases ht), .nil, fun t ht => (by cases ht), fun j hj => by omega⟩
  | k + 1, ts, hk, h => by
    obtain ⟨y, hy, h⟩ := Option.bind_eq_some_iff.1 h
    obtain ⟨t, ht, rfl⟩ := Option.map_eq_some_iff.1 h
    have b := boxT_BT hs (by omega) hy
    have hl := fieldT_len ht
    have hf := fieldT_field ht
    have hset := hs.2 k (by omega)
    refine ⟨by rw [List.length_append]; have := b.len; omega, fun x hx => ?_, ?_, fun x hx => ?_, fun j hj v => ?_⟩
    · rcases List.mem_append.1 hx with h | h
      · have := b.field x h; omega
      · rw [hf x h]; omega
    · refine List.pairwise_append.2 ⟨b.asc, ?_, fun x hx z hz => ?_⟩
      · match t, hl with
        | [], _ => exact .nil
        | [_], _ => exact List.pairwise_singleton ..
      · rw [hf z hz]; exact (b.field x hx).2
    · rcases List.mem_append.1 hx with h | h
      · exact b.tv x h
      · exact fieldT_TV (by omega) hset ht x h
    · rw [List.all_append]
      by_cases ej : j = k
      · subst ej
        have h1 : (y.all fun t => t.Field.toNat != j || F.has (testL t) v) = true := by
          rw [List.all_eq_true]; intro x hx
          have := b.field x hx
          rw [show (x.Field.toNat != j) = true from by simp; omega]; rfl
        have h2 : (t.all fun x => x.Field.toNat != j || F.has (testL x) v) = t.all fun x => F.has (testL x) v := by
          rw [Bool.eq_iff_iff]
          simp only [List.all_eq_true]
          refine ⟨fun h x hx => ?_, fun h x hx => ?_⟩
          · have := h x hx
            rw [hf x hx, Int.toNat_natCast] at this
            simpa using this
          · rw [h x hx, Bool.or_true]
        rw [h1, Bool.true_and, h2]
        exact fieldT_has (by omega) hset ht v
      · have h2 : (t.all fun x => x.Field.toNat != j || F.has (testL x) v) = true := by
          rw [List.all_eq_true]; intro x hx
          rw [hf x hx, Int.toNat_natCast, show (k != j) = true from by simp; omega]; rfl
        rw [h2, Bool.and_true]
        exact b.has j (by omega) v
/-- Both loops. -/
theorem boxT_loop {s : List (List Span)} {body : List Test × Int → Option (SR (List Test × Int) (List Test × Bool))}
    (hb : ∀ (y : List Test) (k : Nat), k < 4 → y.length ≤ 10 → body (y, (k : Int)) = match fieldT k (sd s k) with | some t => some (.nxt (y ++ t, ((k + 1 : Nat) : Int))) | none => some (.ret ([], false)))
    (he : ∀ y, body (y, 4) = some (.brk (y, 4))) : loopF body 5 ([], 0) = match boxT s 4 with | some ts => some (.brk (ts, 4)) | none => some (.ret ([], false)) := by
  suffices key : ∀ (j k : Nat) (ts : List Test), k + j = 4 → boxT s k = some ts → ts.length ≤ k → loopF body (j + 1) (ts, (k : Int)) = match boxT s 4 with | some ts => some (.brk (ts, 4)) | none => some (.ret ([], false)) from key 4 0 [] rfl rfl (Nat.le_refl _)
  have none_up : ∀ (j k : Nat), k + j = 4 → boxT s k = none → boxT s 4 = none := by
    intro j
    induction j with
    | zero => intro k hk h; rw [show k = 4 by omega] at h; exact h
    | succ j ih => intro k hk h; exact ih (k + 1) (by omega) (by show (boxT s k).bind _ = none; rw [h]; rfl)
  intro j
  induction j with
  | zero =>
    intro k ts hk h _
    have hk : k = 4 := by omega
    subst hk
    unfold loopF
    rw [h]
    have := he ts
    rw [show (((4 : Nat) : Int)) = 4 from rfl, this]; rfl
  | succ j ih =>
    intro k ts hk h hl
    have hsucc : boxT s (k + 1) = (fieldT k (sd s k)).map fun t => ts ++ t := by
      show (boxT s k).bind _ = _
      rw [h]; rfl
    unfold loopF
    rw [hb ts k (by omega) (by omega)]
    cases hf : fieldT k (sd s k) with
    | none =>
      rw [hf] at hsucc
      rw [none_up j (k + 1) (by omega) hsucc]; rfl
    | some t =>
      rw [hf] at hsucc
      have := fieldT_len hf
      exact ih (k + 1) (ts ++ t) (by omega) hsucc (by rw [List.length_append]; omega)
theorem shapes_top {k : Nat} (hk : k < 4) : ∃ x, idx shapes (k : Int) = some x ∧ x.top = topOf k := by
  match k, hk with
  | 0, _ => exact ⟨_, rfl, rfl⟩
  | 1, _ => exact ⟨_, rfl, rfl⟩
  | 2, _ => exact ⟨_, rfl, rfl⟩
  | 3, _ => exact ⟨_, rfl, rfl⟩
theorem boxtests_is {b : Box} (hb : OkBox b) : ∃ r : List Test × Bool, spec_BoxTests b = some r ∧ impl_BoxTests b = some r ∧ ((r = ([], false)) ∨ (BV b ∧ r.2 = true ∧ boxT b.Sides 4 = some r.1)) := by
  obtain ⟨v, e1, e2, hv⟩ := (spec_box hb).same (impl_box hb)
  unfold spec_BoxTests impl_BoxTests
  rw [e1, e2, Option.bind_some, Option.bind_some]
  cases v with
  | false => exact ⟨_, rfl, rfl, .inl rfl⟩
  | true =>
    have hbv := hv.1 rfl
    have h4 := (BV_iff.1 hbv).1
    obtain ⟨q, e3, e4, hq⟩ := (spec_emp h4).same (impl_emp h4.1)
    rw [cond_true, cond_true, e3, impl_sides h4.1, Option.bind_some, Option.bind_some, e4, Option.bind_some]
    cases q with
    | true => exact ⟨_, rfl, rfl, .inl rfl⟩
    | false =>
      rw [cond_false, cond_false]
      have ls : loopF (spec_BoxTests_L0 b) 5 ([], 0) = match boxT b.Sides 4 with | some ts => some (.brk (ts, 4)) | none => some (.ret ([], false)) := by
        refine boxT_loop (fun y k hk hy => ?_) (fun y => rfl)
        have hs0 := h4.2 k hk
        unfold spec_BoxTests_L0
        simp only [lt_true (show (k : Int) < 4 by omega), cond_true, sd_idx h4.1 hk, Option.bind_some, spec_top, W_succ (show k < 9223372036854775807 by omega)]
        match hsd : sd b.Sides k, hs0 with
        | [], _ => rfl
        | [x], _ =>
          simp only [List.length_cons, List.length_nil, fieldT]
          show (bif decide (x = ({ Lo := 0, Hi := topOf k } : Span)) then _ else _) = _
          by_cases e : x = ⟨0, topOf k⟩
          · rw [decide_eq_true e, if_pos e, List.append_nil]; rfl
          · rw [decide_eq_false e, if_neg e, cond_false, app_ok (by simp; omega)]; rfl
        | [x, z], hs0 =>
          have hx := hs0.mem (x := x) (by simp)
          have hz := hs0.mem (x := z) (by simp)
          have ht := hs0.t1
          simp only [List.length_cons, List.length_nil, fieldT]
          show (bif (x.Lo == 0) then (bif (z.Hi == topOf k) then _ else _) else _) = _
          by_cases ex : x.Lo = 0
          · rw [(by simp [ex] : (x.Lo == 0) = true), cond_true]
            by_cases ez : z.Hi = topOf k
            · rw [(by simp [ez] : (z.Hi == topOf k) = true), cond_true, if_pos ⟨ex, ez⟩, app_ok (by simp; omega), W_of (by omega) (by omega), W_of (by omega) (by omega)]; rfl
            · rw [(by simp [ez] : (z.Hi == topOf k) = false), cond_false, if_neg fun h => ez h.2]
          · rw [(by simp [ex] : (x.Lo == 0) = false), cond_false, if_neg fun h => ex h.1]
        | x :: z :: w :: t, _ =>
          have l1 : ((((x :: z :: w :: t).length : Nat) : Int) == 1) = false := by simp; omega
          have l2 : ((((x :: z :: w :: t).length : Nat) : Int) == 2) = false := by simp; omega
          rw [l1, cond_false, l2, cond_false]; rfl
      have li : loopF (impl_BoxTests_L0 b) 5 ([], 0) = match boxT b.Sides 4 with | some ts => some (.brk (ts, 4)) | none => some (.ret ([], false)) := by
        refine boxT_loop (fun y k hk hy => ?_) (fun y => by unfold impl_BoxTests_L0; rw [h4.1]; rfl)
        have hs0 := h4.2 k hk
        obtain ⟨sh, esh, htop⟩ := shapes_top hk
        have hlen : (b.Sides.length : Int) = 4 := by rw [h4.1]; rfl
        unfold impl_BoxTests_L0
        simp only [hlen, lt_true (show (k : Int) < 4 by omega), cond_true, sd_idx h4.1 hk, Option.bind_some, esh, htop, W_succ (show k < 9223372036854775807 by omega)]
        match hsd : sd b.Sides k, hs0 with
        | [], _ => rfl
        | [x], _ =>
          simp only [List.length_cons, List.length_nil, fieldT]
          show (bif decide (x = ({ Lo := 0, Hi := topOf k } : Span)) then _ else _) = _
          by_cases e : x = ⟨0, topOf k⟩
          · rw [decide_eq_true e, if_pos e, List.append_nil]; rfl
          · rw [decide_eq_false e, if_neg e, cond_false, app_ok (by simp; omega)]; rfl
        | [x, z], hs0 =>
          have hx := hs0.mem (x := x) (by simp)
          have hz := hs0.mem (x := z) (by simp)
          have ht := hs0.t1
          simp only [List.length_cons, List.length_nil, fieldT]
          show (bif (x.Lo == 0) then (bif (z.Hi == topOf k) then _ else _) else _) = _
          by_cases ex : x.Lo = 0
          · rw [(by simp [ex] : (x.Lo == 0) = true), cond_true]
            by_cases ez : z.Hi = topOf k
            · rw [(by simp [ez] : (z.Hi == topOf k) = true), cond_true, if_pos ⟨ex, ez⟩, app_ok (by simp; omega), W_of (by omega) (by omega), W_of (by omega) (by omega)]; rfl
            · rw [(by simp [ez] : (z.Hi == topOf k) = false), cond_false, if_neg fun h => ez h.2]
          · rw [(by simp [ex] : (x.Lo == 0) = false), cond_false, if_neg fun h => ex h.1]
        | x :: z :: w :: t, _ =>
          have l1 : ((((x :: z :: w :: t).length : Nat) : Int) == 1) = false := by simp; omega
          have l2 : ((((x :: z :: w :: t).length : Nat) : Int) == 2) = false := by simp; omega
          rw [l1, cond_false, l2, cond_false]; rfl
      have hfs : (((4 : Int)) - 0).toNat.succ = 5 := rfl
      have hfi : ((((b.Sides.length : Int)) - 0).toNat.succ) = 5 := by rw [h4.1]; rfl
      rw [hfs, hfi, ls, li]
      cases hbt : boxT b.Sides 4 with
      | none => exact ⟨_, rfl, rfl, .inl rfl⟩
      | some ts => exact ⟨(ts, true), rfl, rfl, .inr ⟨hbv, rfl, rfl⟩⟩
theorem draw_boxtests {code : List Int} (h : GAll GU8 code) : ∃ b : Box, spec_DrawBoxTests code = some b ∧ OkB b := by
  obtain ⟨xs, e0, hx⟩ := open_ok h
  obtain ⟨b, p, e, hb, _⟩ := dr_box hx 0 9 (by decide) (by decide)
  refine ⟨b, ?_, hb.1⟩
  unfold spec_DrawBoxTests
  rw [e0, Option.bind_some]
  simp only [e, Option.bind_some]
theorem plain_FnBoxTests (code : List Int) (g : GAll GU8 code) : laws_FnBoxTests code = some true := by
  unfold laws_FnBoxTests
  refine draw_guard fun _ => ?_
  obtain ⟨b, e, hb⟩ := draw_boxtests g
  obtain ⟨r, e1, e2, hr⟩ := boxtests_is hb.ok
  rw [e]
  simp only [Option.bind_some, e1, e2, bne_self_eq_false, cond_false, alive_is]
  rcases hr with rfl | ⟨hbv, hok, hbt⟩
  · rfl
  · obtain ⟨ts, ok⟩ := r
    simp only at hok hbt
    subst hok
    have h4 := (BV_iff.1 hbv).1
    have hB := boxT_BT h4 (Nat.le_refl _) hbt
    have hlen := hB.len
    have eo : loopF (laws_FnBoxTests_L0 (ts, true) (ts, true)) ((((ts.length : Int)) - 0).toNat.succ) 0 = some (.brk (ts.length : Int)) := by
      refine loop_brk0 (body := laws_FnBoxTests_L0 (ts, true) (ts, true)) ts.length (fun k : Nat => (k : Int)) rfl (fun k hk => ?_) ?_ (by omega)
      · unfold laws_FnBoxTests_L0
        simp only [lt_true (show (k : Int) < (ts.length : Int) by omega), cond_true, idx_get hk, Option.bind_some, decide_true, Bool.not_true, cond_false, W_succ (show k < 9223372036854775807 by omega)]
        by_cases h0 : k = 0
        · subst h0; rfl
        · obtain ⟨j, rfl⟩ : ∃ j, k = j + 1 := ⟨k - 1, by omega⟩
          rw [lt_true (show (0 : Int) < ((j + 1 : Nat) : Int) by omega), cond_true, W_of (by omega) (by omega), show ((j + 1 : Nat) : Int) - 1 = (j : Int) by omega, idx_get (show j < ts.length by omega), Option.bind_some]
          have := List.pairwise_iff_getElem.1 hB.asc j (j + 1) (by omega) hk (by omega)
          rw [decide_eq_false (by omega : ¬ (ts[j + 1].Field ≤ ts[j].Field))]; rfl
      · unfold laws_FnBoxTests_L0
        simp only [lt_false (Int.le_refl _), cond_false]
    simp only [eo, LR.on, Option.bind_some, cond_true]
    obtain ⟨x, ex, _, hx, h1, _⟩ := tb (ts := ts) (by omega)
    have hv : TsV ts := ⟨hB.tv, by omega⟩
    rw [ex, Option.bind_some, same_box x b hx, Option.bind_some, h1 hv]
    have : testsS ts = b.Sides := (testsS_B4 hB.tv).ext h4 fun k hk v => by
      rw [has_testsS hB.tv hk]; exact hB.has k hk v
    rw [this]; simp
end Go.PF.F

/- Plain laws: ExactBoxTests. -/
namespace Go.PF.F
open Go Go.PF

theorem mark_SpanS (xs : List Span) (k : Nat) (h : k + 2 * xs.length ≤ 4611686018427387904) : laws_markSpanS xs (k : Int) = some (((k + 2 * xs.length : Nat) : Int)) := by
  unfold laws_markSpanS
  rw [mark_gen xs (fun _ => 2) k (by rw [sum_const]; exact h) (fun k j hj hk => by
    unfold laws_markSpanS_L0
    simp only [lt_true (show (j : Int) < (xs.length : Int) by omega), cond_true, idx_get hj, Option.bind_some]
    rw [W_k (k := k) (by omega), W_k (k := k + 1) (by omega), W_succ (show j < 9223372036854775807 by omega)]) (fun k => by
    unfold laws_markSpanS_L0
    simp only [lt_false (Int.le_refl _), cond_false]), sum_const]
  rfl
def mkSS (xs : List (List Span)) : Nat := (xs.map fun s => 2 * s.length).sum
theorem mkSS_le (xs : List (List Span)) : mkSS xs ≤ 2 * wSpanSS xs := sum_le_wt (fun s => by unfold wSpanS; omega) xs
theorem mark_SpanSS (xs : List (List Span)) (hn : xs.length ≤ 4611686018427387904) (k : Nat) (h : k + mkSS xs ≤ 4611686018427387904) : laws_markSpanSS xs (k : Int) = some (((k + mkSS xs : Nat) : Int)) := by
  unfold laws_markSpanSS
  rw [mark_gen xs (fun s => 2 * s.length) k h (fun k j hj hk => by
    unfold laws_markSpanSS_L0
    simp only [lt_true (show (j : Int) < (xs.length : Int) by omega), cond_true, idx_get hj, Option.bind_some, mark_SpanS xs[j] k hk]
    rw [W_succ (show j < 9223372036854775807 by omega)]) (fun k => by
    unfold laws_markSpanSS_L0
    simp only [lt_false (Int.le_refl _), cond_false])]
  rfl
theorem mark_Box {b : Box} (h : wBox b ≤ 1048576) : ∃ k : Nat, laws_markBox b 1 = some (k : Int) := by
  have h1 := mkSS_le b.Sides
  have h2 : wSpanSS b.Sides ≤ 1048576 := h
  have hs := wtL_small h2
  have e := mark_SpanSS b.Sides (by omega) 1 (by omega)
  refine ⟨1 + mkSS b.Sides, ?_⟩
  unfold laws_markBox
  have e' : laws_markSpanSS b.Sides (1 : Int) = some _ := e
  rw [e']; rfl
def fTest : Nat → Test → Test := fun k _ => { Field := (k : Int), Lo := ((k + 1 : Nat) : Int), Hi := ((k + 1 + 1 : Nat) : Int), Not := ((((k + 1 + 1 + 1 : Nat) : Int)).tmod 3 == 0) }
theorem idx_set {α : Type} {xs : List α} {j : Nat} (h : j < xs.length) (x : α) : idx (xs.set j x) (j : Int) = some x := by
  rw [idx_get (by rw [List.length_set]; exact h), List.getElem_set_self]
theorem mark_tests (xs : List Test) (h : 1 + 4 * xs.length ≤ 4611686018427387904) : laws_markTestS_r xs 1 = some (((1 + 4 * xs.length : Nat) : Int), markL fTest 4 1 xs) := by
  unfold laws_markTestS_r
  have := mark_own (f := fTest) (c := 4) xs (body := laws_markTestS_r_L0) 1 (by omega) (fun k j ys hj hl hk => by
    unfold laws_markTestS_r_L0
    simp only [lt_true (show (j : Int) < (ys.length : Int) by omega), cond_true, idx_get hj, Option.bind_some, Int.toNat_natCast, idx_set hj, List.set_set]
    rw [W_k (k := k) (by omega), W_k (k := k + 1) (by omega), W_k (k := k + 1 + 1) (by omega), W_k (k := k + 1 + 1 + 1) (by omega), W_succ (show j < 9223372036854775807 by omega)]; rfl) (fun k ys hl => by
    unfold laws_markTestS_r_L0
    simp only [hl, lt_false (Int.le_refl _), cond_false])
  have this' : loopF laws_markTestS_r_L0 (((xs.length : Int)) - 0).toNat.succ ((1 : Int), 0, xs) = some _ := this
  rw [this']; rfl
theorem held_tests (xs : List Test) (h : 1 + 4 * xs.length ≤ 4611686018427387904) : laws_heldTestS (markL fTest 4 1 xs) 1 = some (((1 + 4 * xs.length : Nat) : Int)) := by
  unfold laws_heldTestS
  have hl := markL_len fTest 4 1 xs
  have := held_gen (markL fTest 4 1 xs) (body := laws_heldTestS_L0 (markL fTest 4 1 xs)) 4 1 (fun j hj => by
    have hj' : j < xs.length := by omega
    unfold laws_heldTestS_L0
    simp only [lt_true (show (j : Int) < ((markL fTest 4 1 xs).length : Int) by omega), cond_true, idx_get hj, Option.bind_some, markL_get fTest 4 1 xs j hj']
    rw [W_k (k := 1 + 4 * j) (by omega), W_k (k := 1 + 4 * j + 1) (by omega), W_k (k := 1 + 4 * j + 1 + 1) (by omega), W_k (k := 1 + 4 * j + 1 + 1 + 1) (by omega), W_succ (show j < 9223372036854775807 by omega)]
    simp only [fTest, bne_self_eq_false, cond_false]) (fun k => by
    unfold laws_heldTestS_L0
    simp only [lt_false (Int.le_refl _), cond_false])
  have this' : loopF (laws_heldTestS_L0 (markL fTest 4 1 xs)) ((((markL fTest 4 1 xs).length : Int)) - 0).toNat.succ ((1 : Int), 0) = some _ := this
  rw [this', hl]; rfl
theorem plain_FnExactBoxTests (a : Box) (ga : G_Box a) : laws_FnExactBoxTests a = some true := by
  have ha := ok_of_G ga
  unfold laws_FnExactBoxTests
  rw [sz_Box (by decide) (by decide) ha, Option.bind_some]
  by_cases hs : wBox a ≤ 1048576
  · obtain ⟨⟨r, t⟩, e1, e2, h1⟩ := boxtests_is ha
    have hr : r.length ≤ 1000 := by
      rcases h1 with h1 | ⟨hv, _, h1⟩
      · injection h1 with h1 _
        rw [h1]; simp
      · have h2 : r.length ≤ 4 := (boxT_BT (BV_iff.1 hv).1 (Nat.le_refl _) h1).len
        omega
    obtain ⟨k, ek⟩ := mark_Box hs
    have e2' : impl_BoxTests ({ Sides := a.Sides } : Box) = some (r, t) := e2
    have e3' : laws_eqBox ({ Sides := a.Sides } : Box) a = some true := by rw [eq_Box _ _ ha]; simp
    rw [left_pos hs, cond_false, to_Box (sm_Box hs), Option.bind_some, e1, Option.bind_some, e2', Option.bind_some, eq_TestS r r (by omega), decide_eq_true rfl, Option.bind_some, cond_true, bne_self_eq_false, cond_false, e3', Option.bind_some, cond_true, ek, Option.bind_some, decide_eq_false (by omega : ¬ ((k : Int) < 0)), cond_false, mark_tests r (by omega), Option.bind_some, held_tests r (by omega), Option.bind_some, decide_eq_false (by omega : ¬ (((1 + 4 * r.length : Nat) : Int) < 0)), cond_false, bne_self_eq_false, cond_false, Option.bind_some, eq_TestS r r (by omega), decide_eq_true rfl, Option.bind_some]
    simp
  · rw [left_neg hs]; rfl
end Go.PF.F

/- Plain laws: meetings of boxes, packets in boxes and regions. -/
namespace Go.PF.F
open Go Go.PF

theorem mk4_set (f : Nat → List Span) {k : Nat} (hk : k < 4) (x : List Span) : (mk4 f).set k x = mk4 fun j => if j = k then x else f j := by
  match k, hk with
  | 0, _ => rfl
  | 1, _ => rfl
  | 2, _ => rfl
  | 3, _ => rfl
theorem mk4_congr {f g : Nat → List Span} (h : ∀ k, k < 4 → f k = g k) : mk4 f = mk4 g := by
  unfold mk4
  exact List.map_congr_left fun k hk => h k (List.mem_range.1 hk)
theorem few_meet {a b : List (List Span)} : Few (meetS a b) ↔ ∀ k, k < 4 → (meetL (sd a k) (sd b k)).length ≤ 40 := by
  unfold Few meetS
  exact ⟨fun h k hk => by have := h k hk; rwa [sd_mk4 _ hk] at this, fun h k hk => by rw [sd_mk4 _ hk]; exact h k hk⟩
def nil4L : List (List Span) := [[], [], [], []]
theorem impl_meets {a b : List (List Span)} (ha : B4 a) (hb : B4 b) : (Few (meetS a b) ∧ impl_sides_meet a b = some (meetS a b, true)) ∨ (¬ Few (meetS a b) ∧ impl_sides_meet a b = some (nil4L, false)) := by
  unfold impl_sides_meet
  obtain ⟨o, ho, hq⟩ := loop_idx (body := impl_sides_meet_L0 a b) 4
    (fun k s => s = ((k : Int), nil4L, mk4 fun j => if j < k then meetL (sd a j) (sd b j) else []) ∧ ∀ j, j < k → (meetL (sd a j) (sd b j)).length ≤ 40)
    (fun o => (o = .brk (4, nil4L, meetS a b) ∧ Few (meetS a b)) ∨ (o = .ret (nil4L, false) ∧ ¬ Few (meetS a b))) (s := (0, nil4L, nil4L)) ⟨rfl, fun j h => by omega⟩
    (fun k s hk ⟨e, h⟩ => by
      subst e
      unfold impl_sides_meet_L0
      simp only [lt_true (show (k : Int) < 4 by omega), cond_true, sd_idx ha.1 hk, sd_idx hb.1 hk, Option.bind_some, impl_top, impl_meet (ha.2 k hk) (hb.2 k hk)]
      by_cases h40 : (meetL (sd a k) (sd b k)).length ≤ 40
      · rw [if_pos h40]
        simp only [cond_true, sd_idx (mk4_len _) hk, Option.bind_some, Int.toNat_natCast, mk4_set _ hk, W_succ (show k < 9223372036854775807 by omega)]
        refine .inl ⟨_, rfl, ?_, fun j hj => ?_⟩
        · refine congrArg (fun z => (((k + 1 : Nat) : Int), nil4L, z)) (mk4_congr fun j hj => ?_)
          by_cases e : j = k
          · subst e; rw [if_pos rfl, if_pos (by omega)]
          · rw [if_neg e]
            by_cases h1 : j < k
            · rw [if_pos h1, if_pos (by omega)]
            · rw [if_neg h1, if_neg (by omega)]
        · by_cases e : j = k
          · subst e; exact h40
          · exact h j (by omega)
      · rw [if_neg h40]
        exact .inr (.inl ⟨_, rfl, .inr ⟨rfl, fun hf => h40 (few_meet.1 hf k hk)⟩⟩))
    (fun s ⟨e, h⟩ => by
      subst e
      exact .inl ⟨_, rfl, .inl ⟨by
        unfold meetS
        refine congrArg (fun z => LR.brk (((4 : Nat) : Int), nil4L, z)) (mk4_congr fun j hj => by rw [if_pos hj]), few_meet.2 h⟩⟩)
  have ho' : loopF (impl_sides_meet_L0 a b) (((4 : Int)) - 0).toNat.succ (0, [([] : List Span), ([] : List Span), ([] : List Span), ([] : List Span)], [([] : List Span), ([] : List Span), ([] : List Span), ([] : List Span)]) = some o := ho
  rw [ho']
  rcases hq with ⟨rfl, h⟩ | ⟨rfl, h⟩
  · exact .inl ⟨h, rfl⟩
  · exact .inr ⟨h, rfl⟩
theorem impl_meetb {a b : Box} (ha : OkBox a) (hb : OkBox b) : ∃ m, impl_BoxMeet a b = some m ∧ (BV a ∧ BV b ∧ Few (meetS a.Sides b.Sides) → m = ⟨meetS a.Sides b.Sides⟩) ∧ (¬ (BV a ∧ BV b ∧ Few (meetS a.Sides b.Sides)) → m = ⟨[]⟩) := by
  unfold impl_BoxMeet
  obtain ⟨v, e1, hv⟩ := impl_box ha
  obtain ⟨w, e2, hw⟩ := impl_box hb
  rw [e1, Option.bind_some]
  cases v with
  | false => exact ⟨_, rfl, fun h => by simpa using hv.2 h.1, fun _ => rfl⟩
  | true =>
    rw [cond_true, e2, Option.bind_some]
    cases w with
    | false => exact ⟨_, rfl, fun h => by simpa using hw.2 h.2.1, fun _ => rfl⟩
    | true =>
      have hva := hv.1 rfl
      have hvb := hw.1 rfl
      have ha4 := (BV_iff.1 hva).1
      have hb4 := (BV_iff.1 hvb).1
      rw [cond_true, impl_sides hva.1, Option.bind_some, impl_sides hvb.1, Option.bind_some]
      rcases impl_meets ha4 hb4 with ⟨hf, e⟩ | ⟨hf, e⟩
      · rw [e, Option.bind_some]
        simp only [cond_true, impl_box4 (ha4.meet hb4).1 (ha4.meet hb4).okm, Option.bind_some]
        exact ⟨_, rfl, fun _ => rfl, fun h => absurd ⟨hva, hvb, hf⟩ h⟩
      · rw [e, Option.bind_some]
        exact ⟨_, rfl, fun h => absurd h.2.2 hf, fun _ => rfl⟩
theorem TsV.take {ts : List Test} (h : TsV ts) (k : Nat) : TsV (ts.take k) := ⟨fun t ht => h.1 t (List.mem_of_mem_take ht), by have := h.2; simp; omega⟩
theorem TsV.drop {ts : List Test} (h : TsV ts) (k : Nat) : TsV (ts.drop k) := ⟨fun t ht => h.1 t (List.mem_of_mem_drop ht), by have := h.2; simp; omega⟩
theorem plain_FnTestsMore (code : List Int) (g : GAll GU8 code) : laws_FnTestsMore code = some true := by
  unfold laws_FnTestsMore
  refine draw_guard fun _ => ?_
  obtain ⟨ts, e, hl⟩ := draw_testsbox g
  obtain ⟨b, e1, e2, hok, hy, _⟩ := tb (ts := ts) (by omega)
  obtain ⟨v, ev, hv⟩ := spec_tests (xs := ts) (by omega)
  rw [e]
  simp only [Option.bind_some, e1, e2, same_box _ _ hok, decide_true, cond_true, ev]
  cases v with
  | false => rfl
  | true =>
    have ht := hv.1 rfl
    have hb := hy ht
    subst hb
    have h1 := ht.take (ts.length / 2)
    have h2 := ht.drop (ts.length / 2)
    obtain ⟨x, ex, _, okx, hx, _⟩ := tb (ts := ts.take (ts.length / 2)) (by simp; omega)
    obtain ⟨y, ey, _, oky, hyy, _⟩ := tb (ts := ts.drop (ts.length / 2)) (by simp; omega)
    have hx := hx h1
    have hyy := hyy h2
    subst hx
    subst hyy
    have happ : meetS (testsS (ts.take (ts.length / 2))) (testsS (ts.drop (ts.length / 2))) = testsS ts := by
      rw [testsS_app h1.1 h2.1, List.take_append_drop]
    obtain ⟨q, eq, hq⟩ := impl_within hok okx
    obtain ⟨r, er, hr⟩ := impl_within hok oky
    obtain ⟨m, em, hm, _⟩ := impl_meetb okx oky
    have hqt : q = true := hq.2 ⟨ht.bv, h1.bv, by rw [← happ]; exact within_meet (testsS_B4 h1.1) (testsS_B4 h2.1)⟩
    have hrt : r = true := hr.2 ⟨ht.bv, h2.bv, by rw [← happ]; exact within_meet' (testsS_B4 h1.1) (testsS_B4 h2.1)⟩
    have hm := hm ⟨h1.bv, h2.bv, by rw [happ]; exact testsS_few ht⟩
    have hm : m = ⟨testsS ts⟩ := hm.trans (by rw [happ])
    subst hm
    rw [take_half (by omega), drop_half (by omega)]
    simp only [cond_true, Option.bind_some, ex, ey, eq, er, em, hqt, hrt, same_box _ _ hok, decide_true]

/-! Packets that lie in boxes. -/
theorem dr_inside {xs : List Int} (hx : Bytes xs) {b : Box} (hb : OkB b) (pos n : Int) : Dr (spec_l20Inside xs pos b n) pos 40 (fun _ => True) := by
  intro h0 h1
  unfold spec_l20Inside
  have hb5 := hb.1
  obtain ⟨o, ho, ⟨y, k, p⟩, rfl, hl, l, u⟩ := loop_wf (body := spec_l20Inside_L0 xs b)
    (fun s => ∃ k : Nat, s.2.1 = (k : Int) ∧ k ≤ 4 ∧ s.1.length ≤ k ∧ pos ≤ s.2.2 ∧ s.2.2 ≤ pos + k) (fun s => b.Sides.length - s.2.1.toNat)
    (fun o => ∃ s : List Test × Int × Int, o = .brk s ∧ s.1.length ≤ 4 ∧ pos ≤ s.2.2 ∧ s.2.2 ≤ pos + 4)
    (fun s ⟨k, e1, hk, hl, l, u⟩ => by
      obtain ⟨y, i, q⟩ := s
      simp only at e1 hl l u
      subst e1
      unfold spec_l20Inside_L0
      by_cases hks : k < b.Sides.length
      · by_cases hk4 : k < 4
        · have hlen := hb.2 _ (List.getElem_mem hks)
          refine .inl ?_
          simp only [lt_true (show (k : Int) < (b.Sides.length : Int) by omega), lt_true (show (k : Int) < 4 by omega), cond_true, idx_get hks, Option.bind_some, W_succ (show k < 9223372036854775807 by omega)]
          by_cases hz : 0 < b.Sides[k].length
          · obtain ⟨r, p, e, hr, l3, u3⟩ := Dr.pick hx (pos := q) (n := (b.Sides[k].length : Int)) (by omega) (by omega) (by omega)
            obtain ⟨z, ez, _⟩ := idx_ok (xs := b.Sides[k]) (i := r) (n := (b.Sides[k].length : Int)) hr rfl
            rw [lt_true (show (0 : Int) < (b.Sides[k].length : Int) by omega), cond_true, e, Option.bind_some]
            simp only [ez, Option.bind_some, app_ok (show y.length + [({ Field := (k : Int), Lo := z.Lo, Hi := z.Hi, Not := false } : Test)].length ≤ 4294967296 by simp; omega)]
            exact ⟨_, rfl, ⟨k + 1, rfl, hk4, by simp; omega, by simp only; omega, by simp only; omega⟩, by simp only [Int.toNat_natCast]; omega⟩
          · rw [lt_false (show (b.Sides[k].length : Int) ≤ 0 by omega), cond_false]
            exact ⟨_, rfl, ⟨k + 1, rfl, hk4, by simp only; omega, l, by simp only; omega⟩, by simp only [Int.toNat_natCast]; omega⟩
        · refine .inr (.inl ⟨(y, (k : Int), q), ?_, _, rfl, by simp only; omega, l, by simp only; omega⟩)
          simp only [lt_true (show (k : Int) < (b.Sides.length : Int) by omega), lt_false (show (4 : Int) ≤ (k : Int) by omega), cond_true, cond_false]
      · refine .inr (.inl ⟨(y, (k : Int), q), ?_, _, rfl, by simp only; omega, l, by simp only; omega⟩)
        simp only [lt_false (show (b.Sides.length : Int) ≤ (k : Int) by omega), cond_false])
    ((((b.Sides.length : Int)) : Int) - 0).toNat.succ (([] : List Test), 0, pos) ⟨0, rfl, by omega, by simp, by simp, by simp⟩ (by simp)
  simp only at hl l u
  simp only [ho, Option.bind_some, LR.on]
  obtain ⟨a, p2, e, _, l2, u2⟩ := dr_near hx (ts := y) (by omega) p n (by omega) (by omega)
  rw [e]
  exact ⟨_, _, rfl, trivial, by simp only; omega, by simp only; omega⟩
theorem draw_boxhas {code : List Int} (h : GAll GU8 code) : ∃ (b : Box) (p : Packet), spec_DrawBoxHas code = some (b, p) ∧ OkB b := by
  unfold spec_DrawBoxHas
  refine draw_open (R := fun m => ∃ (b : Box) (p : Packet), m = some (b, p) ∧ OkB b) h fun xs hx => ?_
  refine Dr.run (R := fun m => ∃ (b : Box) (p : Packet), m = some (b, p) ∧ OkB b) (dr_box hx 0 14) (by decide) (by decide) fun b p hb h0 h1 => ?_
  exact Dr.run (R := fun m => ∃ (b : Box) (p : Packet), m = some (b, p) ∧ OkB b) (dr_inside hx hb.1 p 14) h0 (by omega) fun q p' _ _ _ => ⟨_, _, rfl, hb.1⟩
theorem fullS_okB : OkB ⟨fullS⟩ := OkB.of full_B4 full_few
theorem draw_regionhas {code : List Int} (h : GAll GU8 code) : ∃ (bs : List Box) (p : Packet), spec_DrawRegionHas code = some (bs, p) ∧ BoxesSm bs := by
  unfold spec_DrawRegionHas
  refine draw_open (R := fun m => ∃ (bs : List Box) (p : Packet), m = some (bs, p) ∧ BoxesSm bs) h fun xs hx => ?_
  refine Dr.run (R := fun m => ∃ (bs : List Box) (p : Packet), m = some (bs, p) ∧ BoxesSm bs) (dr_region hx 0 14) (by decide) (by decide) fun bs p hb h0 h1 => ?_
  rw [spec_all, Option.bind_some]
  by_cases hz : 0 < bs.length
  · simp only [lt_true (show (0 : Int) < (bs.length : Int) by omega), cond_true]
    have hmin : 1 ≤ imin 256 (bs.length : Int) ∧ imin 256 (bs.length : Int) ≤ (bs.length : Int) := by unfold imin; split <;> omega
    refine Dr.run (R := fun m => ∃ (bs : List Box) (p : Packet), m = some (bs, p) ∧ BoxesSm bs) (Dr.pick hx hmin.1) h0 (by omega) fun i p2 hi h2 h3 => ?_
    obtain ⟨z, ez, hz2⟩ := idx_ok (xs := bs) (i := i) (n := (bs.length : Int)) ⟨hi.1, by omega⟩ rfl
    simp only [ez, Option.bind_some]
    exact Dr.run (R := fun m => ∃ (bs : List Box) (p : Packet), m = some (bs, p) ∧ BoxesSm bs) (dr_inside hx (b := ⟨z.Sides⟩) (hb.2 z hz2) p2 14) (by omega) (by omega) fun q p' _ _ _ => ⟨_, _, rfl, hb⟩
  · simp only [lt_false (show (bs.length : Int) ≤ 0 by omega), cond_false]
    exact Dr.run (R := fun m => ∃ (bs : List Box) (p : Packet), m = some (bs, p) ∧ BoxesSm bs) (dr_inside hx fullS_okB p 14) h0 (by omega) fun q p' _ _ _ => ⟨_, _, rfl, hb⟩
theorem impl_field {p : Packet} (hp : PV p) {k : Nat} (hk : k < 4) : impl_PacketField p (k : Int) = some (pf p k) := by
  obtain ⟨q, e, hq⟩ := impl_packet p
  unfold impl_PacketField
  rw [lt_false (show (0 : Int) ≤ (k : Int) by omega), cond_false, le_false (show (k : Int) < 4 by omega), cond_false, e, Option.bind_some, hq.2 hp, cond_true, impl_fields, Option.bind_some, idx_pf p hk]; rfl
theorem plain_FnBoxHas (code : List Int) (g : GAll GU8 code) : laws_FnBoxHas code = some true := by
  unfold laws_FnBoxHas
  refine draw_guard fun _ => ?_
  obtain ⟨b, p, e, h⟩ := draw_boxhas g
  obtain ⟨v, e1, e2, hv⟩ := (impl_has h.ok p).same (spec_has h.ok p)
  obtain ⟨w, e3, hw⟩ := spec_box h.ok
  obtain ⟨u, e4, hu⟩ := spec_packet p
  rw [e, Option.bind_some]
  have e1' : impl_BoxHas ({ Sides := (b, p).1.Sides } : Box) ({ From := (b, p).2.From, To := (b, p).2.To, Port := (b, p).2.Port, Proto := (b, p).2.Proto } : Packet) = some v := e1
  have e2' : spec_BoxHas ({ Sides := (b, p).1.Sides } : Box) ({ From := (b, p).2.From, To := (b, p).2.To, Port := (b, p).2.Port, Proto := (b, p).2.Proto } : Packet) = some v := e2
  have e3' : spec_BoxValid ({ Sides := (b, p).1.Sides } : Box) = some w := e3
  have e4' : spec_PacketValid ({ From := (b, p).2.From, To := (b, p).2.To, Port := (b, p).2.Port, Proto := (b, p).2.Proto } : Packet) = some u := e4
  rw [e1', Option.bind_some, e2', Option.bind_some, bne_self_eq_false, cond_false, e3', Option.bind_some]
  have hno : ∀ (hh : ¬ (BV b ∧ PV p)), v = false := fun hh => by rw [Bool.eq_false_iff]; exact fun x => hh ⟨(hv.1 x).1, (hv.1 x).2.1⟩
  cases w with
  | false => rw [hno fun hh => by simpa using hw.2 hh.1]; rfl
  | true =>
    rw [cond_true, e4', Option.bind_some]
    cases u with
    | false => rw [hno fun hh => by simpa using hu.2 hh.2]; rfl
    | true =>
      have hb := hw.1 rfl
      have hp := hu.1 rfl
      have h4 := (BV_iff.1 hb).1
      have hloop : loopF (laws_FnBoxHas_L0 (b, p)) (((4 : Int)) - 0).toNat.succ (true, 0) = some (.brk (((List.range (4)).all fun j => has (sd b.Sides j) (pf p j)), 4)) :=
        loop_brk0 (body := laws_FnBoxHas_L0 (b, p)) 4 (fun k : Nat => (((List.range (k)).all fun j => has (sd b.Sides j) (pf p j)), (k : Int))) (by simp) (fun k hk => by
          have hs : ((List.range (k + 1)).all fun j => has (sd b.Sides j) (pf p j)) = (((List.range k).all fun j => has (sd b.Sides j) (pf p j)) && has (sd b.Sides k) (pf p k)) := by
            rw [List.range_succ, List.all_append]; simp
          rw [hs]
          unfold laws_FnBoxHas_L0
          simp only [lt_true (show (k : Int) < 4 by omega), cond_true, W_succ (show k < 9223372036854775807 by omega)]
          cases ((List.range k).all fun j => has (sd b.Sides j) (pf p j)) with
          | false => rfl
          | true =>
            obtain ⟨r, er, hr⟩ := impl_have (xs := sd b.Sides k) (by have := h4.len hk; omega) (pf p k)
            have hr : r = has (sd b.Sides k) (pf p k) := by rw [Bool.eq_iff_iff, hr, has_iff]
            have hf : impl_PacketField ({ From := p.From, To := p.To, Port := p.Port, Proto := p.Proto } : Packet) (k : Int) = some (pf p k) := impl_field hp hk
            simp only [cond_true, sd_idx h4.1 hk, Option.bind_some, hf, er, hr, Bool.true_and])
          (by
            unfold laws_FnBoxHas_L0
            rfl) (by decide)
      have hfin : v = ((List.range (4)).all fun j => has (sd b.Sides j) (pf p j)) := by
        rw [Bool.eq_iff_iff, hv, List.all_eq_true, BH_iff h4.1]
        exact ⟨fun x j hj => x.2.2 j (List.mem_range.1 hj), fun x => ⟨hb, hp, fun j hj => x j (List.mem_range.2 hj)⟩⟩
      rw [cond_true, hloop]
      simp only [Option.bind_some, LR.on, ← hfin]
      simp
theorem RV.take {bs : List Box} (h : RV bs) (k : Nat) : RV (bs.take k) := ⟨fun b hb => h.1 b (List.mem_of_mem_take hb), by have := h.2; simp; omega⟩
theorem RV.drop {bs : List Box} (h : RV bs) (k : Nat) : RV (bs.drop k) := ⟨fun b hb => h.1 b (List.mem_of_mem_drop hb), by have := h.2; simp; omega⟩
theorem plain_FnRegionHas (code : List Int) (g : GAll GU8 code) : laws_FnRegionHas code = some true := by
  unfold laws_FnRegionHas
  refine draw_guard fun _ => ?_
  obtain ⟨bs, p, e, h⟩ := draw_regionhas g
  have h1 := h.1
  have hok : ∀ b ∈ bs, OkBox b := fun b hb => (h.2 b hb).ok
  obtain ⟨v, e1, e2, hv⟩ := (impl_rhas (xs := bs) (by omega) hok p).same (spec_rhas (xs := bs) (by omega) hok p)
  obtain ⟨w, e3, hw⟩ := spec_region (xs := bs) (by omega) hok
  obtain ⟨a, ea, ha⟩ := impl_rhas (xs := bs.take (bs.length / 2)) (by simp; omega) (fun b hb => hok b (List.mem_of_mem_take hb)) p
  obtain ⟨c, ec, hc⟩ := impl_rhas (xs := bs.drop (bs.length / 2)) (by simp; omega) (fun b hb => hok b (List.mem_of_mem_drop hb)) p
  obtain ⟨z, ez, hz⟩ := impl_rhas (xs := []) (by simp) (by simp) p
  have hzf : z = false := by rw [Bool.eq_false_iff]; exact fun x => by simpa using (hz.1 x).2.2
  rw [e, Option.bind_some]
  simp only
  rw [show ({ From := p.From, To := p.To, Port := p.Port, Proto := p.Proto } : Packet) = p from rfl, e1, Option.bind_some, e2, Option.bind_some, bne_self_eq_false, cond_false, e3, Option.bind_some]
  cases w with
  | false =>
    have : v = false := by rw [Bool.eq_false_iff]; exact fun x => by simpa using hw.2 (hv.1 x).1
    rw [this]; rfl
  | true =>
    have hr := hw.1 rfl
    have hor : v = (a || c) := by
      rw [Bool.eq_iff_iff, Bool.or_eq_true, hv, ha, hc]
      constructor
      · rintro ⟨_, hp, b, hb, hh⟩
        rw [← List.take_append_drop (bs.length / 2) bs] at hb
        rcases List.mem_append.1 hb with hb | hb
        · exact .inl ⟨hr.take _, hp, b, hb, hh⟩
        · exact .inr ⟨hr.drop _, hp, b, hb, hh⟩
      · rintro (⟨_, hp, b, hb, hh⟩ | ⟨_, hp, b, hb, hh⟩)
        · exact ⟨hr, hp, b, List.mem_of_mem_take hb, hh⟩
        · exact ⟨hr, hp, b, List.mem_of_mem_drop hb, hh⟩
    rw [cond_true, take_half (by omega), drop_half (by omega)]
    simp only [Option.bind_some, ea, ec, ez, hzf, hor]
    cases a <;> cases c <;> rfl
end Go.PF.F

/- Plain laws: two boxes. -/
namespace Go.PF.F
open Go Go.PF

theorem own_box {b : Box} (h : OkB b) : spec_l1OwnBox b = some b := by
  unfold spec_l1OwnBox
  rw [spec_rows (by have := h.1; omega) fun x hx => by have := h.2 x hx; omega]; rfl
theorem spec_meets4 {a b : List (List Span)} (ha : B4 a) (hb : B4 b) : spec_l10Meet ⟨a⟩ ⟨b⟩ = some ⟨meetS a b⟩ := by
  unfold spec_l10Meet
  have e : loopF (spec_l10Meet_L0 ⟨a⟩ ⟨b⟩) (((4 : Int)) - 0).toNat.succ (0, ([] : List (List Span))) = some (.brk (4, meetS a b)) :=
    loop_brk0 (body := spec_l10Meet_L0 ⟨a⟩ ⟨b⟩) 4 (fun k : Nat => ((k : Int), (List.range k).map fun j => meetL (sd a j) (sd b j))) rfl (fun k hk => by
      unfold spec_l10Meet_L0
      simp only [lt_true (show (k : Int) < 4 by omega), cond_true, sd_idx ha.1 hk, sd_idx hb.1 hk, Option.bind_some, spec_meet (show (sd a k).length ≤ 40000 by have := ha.len hk; omega) (show (sd b k).length ≤ 40000 by have := hb.len hk; omega), W_succ (show k < 9223372036854775807 by omega)]
      rw [app_ok (by simp; omega), List.range_succ, List.map_append]; rfl)
      (by
        unfold spec_l10Meet_L0
        rfl) (by decide)
  rw [e]; rfl
theorem meet_is {a b : Box} (ha : OkB a) (hb : OkB b) : ∃ m, impl_BoxMeet a b = some m ∧ spec_BoxMeet a b = some m ∧ OkB m ∧ (BV a ∧ BV b ∧ Few (meetS a.Sides b.Sides) → m = ⟨meetS a.Sides b.Sides⟩) ∧ (¬ (BV a ∧ BV b ∧ Few (meetS a.Sides b.Sides)) → m = ⟨[]⟩) := by
  obtain ⟨m, em, hy, hn⟩ := impl_meetb ha.ok hb.ok
  have hnil : OkB ⟨[]⟩ := ⟨by simp, by simp⟩
  obtain ⟨v, e1, hv⟩ := spec_box ha.ok
  obtain ⟨w, e2, hw⟩ := spec_box hb.ok
  have hspec : spec_BoxMeet a b = some m ∧ OkB m := by
    unfold spec_BoxMeet
    have o1 : spec_l1OwnBox ({ Sides := a.Sides } : Box) = some a := own_box ha
    have o2 : spec_l1OwnBox ({ Sides := b.Sides } : Box) = some b := own_box hb
    rw [o1, Option.bind_some, o2, Option.bind_some]
    have e1' : spec_BoxValid ({ Sides := a.Sides } : Box) = some v := e1
    have e2' : spec_BoxValid ({ Sides := b.Sides } : Box) = some w := e2
    rw [e1', Option.bind_some]
    cases v with
    | false => rw [hn fun h => by simpa using hv.2 h.1]; exact ⟨rfl, hnil⟩
    | true =>
      rw [cond_true, e2', Option.bind_some]
      cases w with
      | false => rw [hn fun h => by simpa using hw.2 h.2.1]; exact ⟨rfl, hnil⟩
      | true =>
        have hva := hv.1 rfl
        have hvb := hw.1 rfl
        have ha4 := (BV_iff.1 hva).1
        have hb4 := (BV_iff.1 hvb).1
        have hm4 := ha4.meet hb4
        obtain ⟨u, e3, hu⟩ := spec_box (b := ⟨meetS a.Sides b.Sides⟩) (B4.ok (b := ⟨meetS a.Sides b.Sides⟩) hm4)
        rw [cond_true, spec_meets4 ha4 hb4, Option.bind_some, e3, Option.bind_some]
        cases u with
        | false =>
          rw [hn fun h => by simpa using hu.2 (BV_iff.2 ⟨hm4, h.2.2⟩)]; exact ⟨rfl, hnil⟩
        | true =>
          have hf := (BV_iff.1 (hu.1 rfl)).2
          rw [hy ⟨hva, hvb, hf⟩]
          exact ⟨rfl, OkB.of hm4 hf⟩
  exact ⟨m, em, hspec.1, hspec.2, hy, hn⟩
theorem OkB.set {s : List (List Span)} (h : OkB ⟨s⟩) (k : Nat) {x : List Span} (hx : x.length ≤ 40) : OkB ⟨s.set k x⟩ := ⟨by have := h.1; simp at this ⊢; omega, fun y hy => by
  rcases List.mem_or_eq_of_mem_set hy with hm | hm
  · exact h.2 y hm
  · rw [hm]; exact hx⟩
/-- Two boxes are drawn. -/
theorem dr_two {xs : List Int} (hx : Bytes xs) {pos : Int} (h0 : 0 ≤ pos) (h1 : pos + 500 ≤ 1000000) : ∃ (a b : Box) (p : Int), spec_l20Two xs pos = some (a, b, p) ∧ OkB a ∧ OkB b ∧ pos ≤ p ∧ p ≤ pos + 500 := by
  unfold spec_l20Two
  obtain ⟨a, p1, e1, ha, l1, u1⟩ := dr_box hx pos 16 h0 (by omega)
  obtain ⟨b, p2, e2, hb, l2, u2⟩ := dr_box hx p1 16 (by omega) (by omega)
  obtain ⟨c, p3, e3, hc, l3, u3⟩ := Dr.pick hx (pos := p2) (n := 5) (by decide) (by omega) (by omega)
  rw [e1, Option.bind_some, e2, Option.bind_some, e3, Option.bind_some]
  by_cases c0 : (c == 0) = true
  · rw [c0, cond_true]
    obtain ⟨m, _, em, hm, _, _⟩ := meet_is ha.1 hb.1
    have em' : spec_BoxMeet a ({ Sides := b.Sides } : Box) = some m := em
    simp only [em', Option.bind_some, spec_all]
    cases ((m.Sides.length : Int) == 0) with
    | true => exact ⟨_, _, _, rfl, ha.1, fullS_okB, by omega, by omega⟩
    | false => exact ⟨_, _, _, rfl, ha.1, hm, by omega, by omega⟩
  · rw [Bool.eq_false_iff.2 c0, cond_false]
    by_cases c1 : (c == 1) = true
    · rw [c1, cond_true]
      obtain ⟨v, ev, hv⟩ := spec_box ha.1.ok
      simp only [ev, Option.bind_some]
      cases v with
      | false => exact ⟨_, _, _, rfl, ha.1, hb.1, by omega, by omega⟩
      | true =>
        have h4 := (hv.1 rfl).1
        obtain ⟨k, p4, e4, hk, l4, u4⟩ := Dr.pick hx (pos := p3) (n := 4) (by decide) (by omega) (by omega)
        obtain ⟨j, rfl⟩ := Int.eq_ofNat_of_zero_le hk.1
        have hj : j < 4 := by omega
        have ht := top_pos hj
        obtain ⟨s, p5, e5, hs, l5, u5⟩ := dr_set hx ht.1 ht.2 p4 (by omega) (by omega)
        rw [cond_true, e4, Option.bind_some, app_nil (by rw [h4]; decide)]
        simp only [Option.bind_some, spec_top, e5, idx_get (show j < a.Sides.length by omega), Int.toNat_natCast]
        exact ⟨_, _, _, rfl, ha.1, ha.1.set j (by omega), by omega, by omega⟩
    · rw [Bool.eq_false_iff.2 c1, cond_false]
      exact ⟨_, _, _, rfl, ha.1, hb.1, by omega, by omega⟩
theorem draw_boxmeet {code : List Int} (h : GAll GU8 code) : ∃ (a b : Box), spec_DrawBoxMeet code = some (a, b) ∧ OkB a ∧ OkB b := by
  unfold spec_DrawBoxMeet
  refine draw_open (R := fun m => ∃ (a b : Box), m = some (a, b) ∧ OkB a ∧ OkB b) h fun xs hx => ?_
  obtain ⟨a, b, p, e, ha, hb, _, _⟩ := dr_two hx (pos := 0) (by decide) (by decide)
  have e' : spec_l20Two (xs, (0 : Int)).1 (xs, (0 : Int)).2 = some (a, b, p) := e
  rw [e']
  exact ⟨_, _, rfl, ha, hb⟩
theorem draw_boxsame {code : List Int} (h : GAll GU8 code) : ∃ (a b : Box), spec_DrawBoxSame code = some (a, b) ∧ OkB a ∧ OkB b := by
  unfold spec_DrawBoxSame
  refine draw_open (R := fun m => ∃ (a b : Box), m = some (a, b) ∧ OkB a ∧ OkB b) h fun xs hx => ?_
  obtain ⟨a, b, p, e, ha, hb, l, u⟩ := dr_two hx (pos := 0) (by decide) (by decide)
  have e' : spec_l20Two (xs, (0 : Int)).1 (xs, (0 : Int)).2 = some (a, b, p) := e
  rw [e', Option.bind_some]
  obtain ⟨c, p3, e3, hc, l3, u3⟩ := Dr.pick hx (pos := p) (n := 3) (by decide) (by omega) (by omega)
  simp only [e3, Option.bind_some]
  cases (c == 0) with
  | true => exact ⟨_, _, rfl, ha, ha⟩
  | false => exact ⟨_, _, rfl, ha, hb⟩
theorem meet_cond_comm {a b : Box} : (BV a ∧ BV b ∧ Few (meetS a.Sides b.Sides)) ↔ (BV b ∧ BV a ∧ Few (meetS b.Sides a.Sides)) := by
  constructor
  · rintro ⟨h1, h2, h3⟩
    exact ⟨h2, h1, by rw [meetS_comm (BV_iff.1 h2).1 (BV_iff.1 h1).1]; exact h3⟩
  · rintro ⟨h1, h2, h3⟩
    exact ⟨h2, h1, by rw [meetS_comm (BV_iff.1 h2).1 (BV_iff.1 h1).1]; exact h3⟩
theorem plain_FnBoxMeet (code more : List Int) (g : GAll GU8 code) (_gm : GAll GU8 more) : laws_FnBoxMeet code more = some true := by
  unfold laws_FnBoxMeet
  refine draw_guard fun _ => draw_guard fun hm => ?_
  obtain ⟨a, b, e, ha, hb⟩ := draw_boxmeet g
  obtain ⟨m, em, es, hok, hy, hn⟩ := meet_is ha hb
  obtain ⟨m2, em2, _, _, hy2, hn2⟩ := meet_is hb ha
  obtain ⟨m3, em3, _, hok3, hy3, hn3⟩ := meet_is ha ha
  rw [e, Option.bind_some]
  have f1 : impl_BoxMeet ({ Sides := (a, b).1.Sides } : Box) ({ Sides := (a, b).2.Sides } : Box) = some m := em
  have f2 : spec_BoxMeet ({ Sides := (a, b).1.Sides } : Box) ({ Sides := (a, b).2.Sides } : Box) = some m := es
  have f3 : impl_BoxMeet ({ Sides := (a, b).2.Sides } : Box) ({ Sides := (a, b).1.Sides } : Box) = some m2 := em2
  have f4 : impl_BoxMeet ({ Sides := (a, b).1.Sides } : Box) ({ Sides := (a, b).1.Sides } : Box) = some m3 := em3
  have hmm : m = m2 := by
    by_cases hc : BV a ∧ BV b ∧ Few (meetS a.Sides b.Sides)
    · rw [hy hc, hy2 (meet_cond_comm.1 hc), meetS_comm (BV_iff.1 hc.1).1 (BV_iff.1 hc.2.1).1]
    · rw [hn hc, hn2 fun h => hc (meet_cond_comm.1 h)]
  subst hmm
  rw [f1, Option.bind_some, f2, Option.bind_some, same_box _ _ hok.ok, decide_eq_true rfl, Option.bind_some, cond_true, f3, Option.bind_some, same_box _ _ hok.ok, decide_eq_true rfl, Option.bind_some, cond_true]
  by_cases hc : BV a ∧ BV b ∧ Few (meetS a.Sides b.Sides)
  · have hma := hy hc
    subst hma
    have ha4 := (BV_iff.1 hc.1).1
    have hb4 := (BV_iff.1 hc.2.1).1
    have hm4 := ha4.meet hb4
    have hbm : BV ⟨meetS a.Sides b.Sides⟩ := BV_iff.2 ⟨hm4, hc.2.2⟩
    obtain ⟨p, ep⟩ := probe_ok (list := [a, b]) (by simp) (fun x hx => by
      rcases List.mem_cons.1 hx with rfl | hx
      · exact ha.ok
      · rw [List.mem_singleton.1 hx]; exact hb.ok) (more_seed hm).1 (more_seed hm).2
    have ep' : laws_probe [({ Sides := (a, b).1.Sides } : Box), ({ Sides := (a, b).2.Sides } : Box)] (more.length : Int) = some p := ep
    obtain ⟨x, ex, hx⟩ := impl_has hok.ok p
    obtain ⟨y, ey, hyy⟩ := impl_has ha.ok p
    obtain ⟨z, ez, hz⟩ := impl_has hb.ok p
    obtain ⟨q, eq, hq⟩ := impl_within hok.ok ha.ok
    obtain ⟨r, er, hr⟩ := impl_within hok.ok hb.ok
    have ey' : impl_BoxHas ({ Sides := (a, b).1.Sides } : Box) p = some y := ey
    have ez' : impl_BoxHas ({ Sides := (a, b).2.Sides } : Box) p = some z := ez
    have eq' : impl_BoxWithin ⟨meetS a.Sides b.Sides⟩ ({ Sides := (a, b).1.Sides } : Box) = some q := eq
    have er' : impl_BoxWithin ⟨meetS a.Sides b.Sides⟩ ({ Sides := (a, b).2.Sides } : Box) = some r := er
    have hqt : q = true := hq.2 ⟨hbm, hc.1, within_meet ha4 hb4⟩
    have hrt : r = true := hr.2 ⟨hbm, hc.2.1, within_meet' ha4 hb4⟩
    have h3 : m3 = a := by
      rw [hy3 ⟨hc.1, hc.1, by rw [meetS_self ha4]; exact (BV_iff.1 hc.1).2⟩, meetS_self ha4]
    have hxyz : x = (y && z) := by
      rw [Bool.eq_iff_iff, Bool.and_eq_true, hx, hyy, hz]
      constructor
      · rintro ⟨_, hp, hh⟩
        have := (BH_meet ha4 hb4 (p := p)).1 hh
        exact ⟨⟨hc.1, hp, this.1⟩, hc.2.1, hp, this.2⟩
      · rintro ⟨⟨_, hp, h1⟩, _, _, h2⟩
        exact ⟨hbm, hp, (BH_meet ha4 hb4 (p := p)).2 ⟨h1, h2⟩⟩
    have hlen : (((⟨meetS a.Sides b.Sides⟩ : Box).Sides.length : Int) == 0) = false := by rw [hm4.1]; rfl
    have hself : laws_sameBox a ({ Sides := (a, b).1.Sides } : Box) = some true := by
      rw [same_box _ _ ha.ok]; simp
    rw [hlen, cond_false, ep', Option.bind_some, ex, Option.bind_some, ey', Option.bind_some]
    subst hqt hrt h3
    cases y with
    | true =>
      have hxz : x = z := by rw [hxyz, Bool.true_and]
      rw [cond_true, ez', Option.bind_some, hxz, beq_self_eq_true, cond_true, eq', Option.bind_some, cond_true, er', Option.bind_some, cond_true, f4, Option.bind_some, hself]; rfl
    | false =>
      have hxz : x = false := by rw [hxyz, Bool.false_and]
      rw [cond_false, hxz, beq_self_eq_true, cond_true, eq', Option.bind_some, cond_true, er', Option.bind_some, cond_true, f4, Option.bind_some, hself]; rfl
  · rw [hn hc]; rfl
theorem plain_FnBoxChain (code more : List Int) (g : GAll GU8 code) (gm : GAll GU8 more) : laws_FnBoxChain code more = some true := by
  unfold laws_FnBoxChain
  refine draw_guard fun _ => draw_guard fun _ => ?_
  obtain ⟨a, b, e, ha, hb⟩ := draw_boxmeet g
  obtain ⟨c, ec, hc⟩ := draw_boxempty gm
  obtain ⟨m, em, es, hok, hy, hn⟩ := meet_is ha hb
  obtain ⟨va, ea, hva⟩ := spec_box ha.ok
  obtain ⟨vb, eb, hvb⟩ := spec_box hb.ok
  obtain ⟨vc, ecv, hvc⟩ := spec_box hc.ok
  obtain ⟨n, en, _, hokn, hyn, hnn⟩ := meet_is hb hc
  obtain ⟨x, ex, _, hokx, hyx, hnx⟩ := meet_is hok hc
  obtain ⟨y, ey, _, hoky, hyy, hny⟩ := meet_is ha hokn
  rw [e, Option.bind_some, ec, Option.bind_some]
  have f1 : impl_BoxMeet ({ Sides := (a, b).1.Sides } : Box) ({ Sides := (a, b).2.Sides } : Box) = some m := em
  have f2 : spec_BoxMeet ({ Sides := (a, b).1.Sides } : Box) ({ Sides := (a, b).2.Sides } : Box) = some m := es
  have f3 : spec_BoxValid ({ Sides := (a, b).1.Sides } : Box) = some va := ea
  have f4 : spec_BoxValid ({ Sides := (a, b).2.Sides } : Box) = some vb := eb
  have f5 : impl_BoxMeet ({ Sides := (a, b).2.Sides } : Box) c = some n := en
  have f6 : impl_BoxMeet ({ Sides := (a, b).1.Sides } : Box) n = some y := ey
  rw [f1, Option.bind_some, f2, Option.bind_some, same_box _ _ hok.ok, decide_eq_true rfl, Option.bind_some, cond_true, f3, Option.bind_some]
  cases va with
  | false => rfl
  | true =>
    rw [cond_true, f4, Option.bind_some]
    cases vb with
    | false => rfl
    | true =>
      rw [cond_true, ecv, Option.bind_some]
      cases vc with
      | false => rfl
      | true =>
        rw [cond_true]
        have hva := hva.1 rfl
        have hvb := hvb.1 rfl
        have hvc := hvc.1 rfl
        have ha4 := (BV_iff.1 hva).1
        have hb4 := (BV_iff.1 hvb).1
        have hc4 := (BV_iff.1 hvc).1
        by_cases h1 : Few (meetS a.Sides b.Sides)
        · have hm := hy ⟨hva, hvb, h1⟩
          subst hm
          have hm4 := ha4.meet hb4
          have hlen : (((⟨meetS a.Sides b.Sides⟩ : Box).Sides.length : Int) == 0) = false := by rw [hm4.1]; rfl
          rw [hlen, cond_false, f5, Option.bind_some]
          by_cases h2 : Few (meetS b.Sides c.Sides)
          · have hn' := hyn ⟨hvb, hvc, h2⟩
            subst hn'
            have hn4 := hb4.meet hc4
            have hlen2 : (((⟨meetS b.Sides c.Sides⟩ : Box).Sides.length : Int) == 0) = false := by rw [hn4.1]; rfl
            rw [hlen2, cond_false, ex, Option.bind_some, f6, Option.bind_some, same_box _ _ hokx.ok]
            have hbm : BV ⟨meetS a.Sides b.Sides⟩ := BV_iff.2 ⟨hm4, h1⟩
            have hbn : BV ⟨meetS b.Sides c.Sides⟩ := BV_iff.2 ⟨hn4, h2⟩
            have hass := meetS_assoc ha4 hb4 hc4
            have hxy : x = y := by
              by_cases h3 : Few (meetS (meetS a.Sides b.Sides) c.Sides)
              · rw [hyx ⟨hbm, hvc, h3⟩, hyy ⟨hva, hbn, by show Few (meetS a.Sides (meetS b.Sides c.Sides)); rw [← hass]; exact h3⟩]
                show (⟨meetS (meetS a.Sides b.Sides) c.Sides⟩ : Box) = ⟨meetS a.Sides (meetS b.Sides c.Sides)⟩
                rw [hass]
              · rw [hnx fun h => h3 h.2.2, hny fun h => h3 (by rw [hass]; exact h.2.2)]
            rw [hxy, decide_eq_true rfl]; rfl
          · rw [hnn fun h => h2 h.2.2]; rfl
        · rw [hn fun h => h1 h.2.2]; rfl
theorem SameS.symm {a b : List (List Span)} (ha : B4 a) (hb : B4 b) : SameS a b ↔ SameS b a := by
  rw [← same_iff ha hb, ← same_iff hb ha]; exact And.comm
theorem plain_FnBoxSame (code : List Int) (g : GAll GU8 code) : laws_FnBoxSame code = some true := by
  unfold laws_FnBoxSame
  refine draw_guard fun _ => ?_
  obtain ⟨a, b, e, ha, hb⟩ := draw_boxsame g
  obtain ⟨v, e1, e2, hv⟩ := (impl_same ha.ok hb.ok).same (spec_same' ha.ok hb.ok)
  obtain ⟨w, e3, hw⟩ := impl_same hb.ok ha.ok
  obtain ⟨va, ea, hva⟩ := spec_box ha.ok
  obtain ⟨vb, eb, hvb⟩ := spec_box hb.ok
  obtain ⟨pa, epa, hpa⟩ := impl_emptyb ha.ok
  obtain ⟨pb, epb, hpb⟩ := impl_emptyb hb.ok
  obtain ⟨s, es, hs⟩ := impl_same ha.ok ha.ok
  rw [e, Option.bind_some]
  have f1 : impl_BoxSame ({ Sides := (a, b).1.Sides } : Box) ({ Sides := (a, b).2.Sides } : Box) = some v := e1
  have f2 : spec_BoxSame ({ Sides := (a, b).1.Sides } : Box) ({ Sides := (a, b).2.Sides } : Box) = some v := e2
  have f3 : impl_BoxSame ({ Sides := (a, b).2.Sides } : Box) ({ Sides := (a, b).1.Sides } : Box) = some w := e3
  have f4 : spec_BoxValid ({ Sides := (a, b).1.Sides } : Box) = some va := ea
  have f5 : spec_BoxValid ({ Sides := (a, b).2.Sides } : Box) = some vb := eb
  have f6 : impl_BoxEmpty ({ Sides := (a, b).1.Sides } : Box) = some pa := epa
  have f7 : impl_BoxEmpty ({ Sides := (a, b).2.Sides } : Box) = some pb := epb
  have f8 : impl_BoxSame ({ Sides := (a, b).1.Sides } : Box) ({ Sides := (a, b).1.Sides } : Box) = some s := es
  have f9 : laws_sameBox ({ Sides := (a, b).1.Sides } : Box) ({ Sides := (a, b).2.Sides } : Box) = some (decide (a = b)) := same_box a b ha.ok
  have hvw : v = w := by
    rw [Bool.eq_iff_iff, hv, hw]
    constructor
    · rintro ⟨h1, h2, h3⟩; exact ⟨h2, h1, (SameS.symm (BV_iff.1 h1).1 (BV_iff.1 h2).1).1 h3⟩
    · rintro ⟨h1, h2, h3⟩; exact ⟨h2, h1, (SameS.symm (BV_iff.1 h1).1 (BV_iff.1 h2).1).1 h3⟩
  rw [f1, Option.bind_some, f2, Option.bind_some, bne_self_eq_false, cond_false, f3, Option.bind_some, ← hvw, bne_self_eq_false, cond_false, f4, Option.bind_some]
  have hno : ¬ (BV a ∧ BV b) → v = false := fun hh => by rw [Bool.eq_false_iff]; exact fun x => hh ⟨(hv.1 x).1, (hv.1 x).2.1⟩
  cases va with
  | false => rw [hno fun hh => by simpa using hva.2 hh.1]; rfl
  | true =>
    rw [cond_true, f5, Option.bind_some]
    cases vb with
    | false => rw [hno fun hh => by simpa using hvb.2 hh.2]; rfl
    | true =>
      have hva := hva.1 rfl
      have hvb := hvb.1 rfl
      have ha4 := (BV_iff.1 hva).1
      have hb4 := (BV_iff.1 hvb).1
      have hst : s = true := hs.2 ⟨hva, hva, (same_iff ha4 ha4).1 ⟨within_self ha4, within_self ha4⟩⟩
      have hpa : pa = true ↔ emptyS a.Sides := hpa.trans ⟨fun h => h.2, fun h => ⟨hva, h⟩⟩
      have hpb : pb = true ↔ emptyS b.Sides := hpb.trans ⟨fun h => h.2, fun h => ⟨hvb, h⟩⟩
      have hv : v = true ↔ SameS a.Sides b.Sides := hv.trans ⟨fun h => h.2.2, fun h => ⟨hva, hvb, h⟩⟩
      have hab : a = b ↔ a.Sides = b.Sides := by
        obtain ⟨x⟩ := a
        obtain ⟨y⟩ := b
        simp
      rw [cond_true, f6, Option.bind_some]
      subst hst
      unfold SameS at hv
      cases pa with
      | true =>
        have hea := hpa.1 rfl
        rw [if_pos hea] at hv
        rw [cond_true, f7, Option.bind_some]
        cases pb with
        | true =>
          rw [hv.2 (hpb.1 rfl), cond_true, beq_self_eq_true, cond_true, f8]; rfl
        | false =>
          have hvf : v = false := by rw [Bool.eq_false_iff]; exact fun h => by simpa using hpb.2 (hv.1 h)
          have hne : a ≠ b := fun h => by rw [hab] at h; rw [h] at hea; simpa using hpb.2 hea
          rw [cond_false, f9, Option.bind_some, hvf, decide_eq_false hne, beq_self_eq_true, cond_true, f8]; rfl
      | false =>
        have hea : ¬ emptyS a.Sides := fun h => by simpa using hpa.2 h
        rw [if_neg hea] at hv
        have hvd : v = decide (a = b) := by
          rw [Bool.eq_iff_iff, hv, decide_eq_true_eq, hab]
          exact ⟨fun h => h.2, fun h => ⟨by rw [← h]; exact hea, h⟩⟩
        rw [cond_false, f9, Option.bind_some, hvd, beq_self_eq_true, cond_true, f8]; rfl
end Go.PF.F
