/- Plain laws: numbers that are written over; ExactCallsOf, ExactChainsUsed. -/
import Derived.Test.YtbnndochnkkllaaDoorPlAI
import Derived.Test.YtbnndochnkkllaaDoorPlB
namespace Go.PF.F
open Go Go.PF

/-- A loop that only counts. -/
theorem mark_gen {α : Type} (xs : List α) (inc : α → Nat) {body : Int × Int → Option (SR (Int × Int) Int)} (k0 : Nat) (hL : k0 + (xs.map inc).sum ≤ 4611686018427387904)
    (hb : ∀ (k j : Nat) (hj : j < xs.length), k + inc xs[j] ≤ 4611686018427387904 → body ((k : Int), (j : Int)) = some (.nxt (((k + inc xs[j] : Nat) : Int), ((j + 1 : Nat) : Int))))
    (he : ∀ k : Int, body (k, (xs.length : Int)) = some (.brk (k, (xs.length : Int)))) :
    loopF body (((xs.length : Int)) - 0).toNat.succ ((k0 : Int), 0) = some (.brk (((k0 + (xs.map inc).sum : Nat) : Int), (xs.length : Int))) := by
  refine loop_brk0 (body := body) xs.length (fun j : Nat => (((k0 + ((xs.take j).map inc).sum : Nat) : Int), (j : Int))) (by simp) (fun j hj => ?_) (by simp only [List.take_length]; exact he _) (by omega)
  have h1 : ((xs.take (j + 1)).map inc).sum = ((xs.take j).map inc).sum + inc xs[j] := by rw [take_snoc (List.getElem?_eq_getElem hj), List.map_append, List.sum_append]; simp
  have h2 : ((xs.take (j + 1)).map inc).sum + ((xs.drop (j + 1)).map inc).sum = (xs.map inc).sum := by rw [← List.sum_append, ← List.map_append, List.take_append_drop]
  rw [hb _ j hj (by omega), h1, Nat.add_assoc]
theorem sum_const {α : Type} (xs : List α) (c : Nat) : (xs.map fun _ => c).sum = c * xs.length := by
  induction xs with
  | nil => simp
  | cons x xs ih => rw [List.map_cons, List.sum_cons, ih, List.length_cons, Nat.mul_add]; omega
theorem sum_le_wt {α : Type} {inc wt : α → Nat} {c : Nat} (h : ∀ x, inc x ≤ c * (wt x + 1)) (xs : List α) : (xs.map inc).sum ≤ c * wtL wt xs := by
  unfold wtL
  induction xs with
  | nil => simp
  | cons x xs ih =>
    rw [List.map_cons, List.sum_cons, List.map_cons, List.sum_cons, List.length_cons]
    have := h x
    have e : c * (xs.length + 1 + (wt x + (xs.map wt).sum)) = c * (wt x + 1) + c * (xs.length + (xs.map wt).sum) := by rw [← Nat.mul_add]; congr 1; omega
    rw [e]
    omega
theorem W_k {k : Nat} (h : k + 1 ≤ 4611686018427387904) : W ((k : Int) + 1) = ((k + 1 : Nat) : Int) := W_succ (by omega)
theorem mark_TestS (xs : List Test) (k : Nat) (h : k + 4 * xs.length ≤ 4611686018427387904) : laws_markTestS xs (k : Int) = some (((k + 4 * xs.length : Nat) : Int)) := by
  unfold laws_markTestS
  rw [mark_gen xs (fun _ => 4) k (by rw [sum_const]; exact h) (fun k j hj hk => by
    unfold laws_markTestS_L0
    simp only [lt_true (show (j : Int) < (xs.length : Int) by omega), cond_true, idx_get hj, Option.bind_some]
    rw [W_k (k := k) (by omega), W_k (k := k + 1) (by omega), W_k (k := k + 1 + 1) (by omega), W_k (k := k + 1 + 1 + 1) (by omega), W_succ (show j < 9223372036854775807 by omega)]) (fun k => by
    unfold laws_markTestS_L0
    simp only [lt_false (Int.le_refl _), cond_false]), sum_const]
  rfl
def mkR (rs : List Rule) : Nat := (rs.map fun r => 4 * r.Tests.length + 2).sum
theorem mark_RuleS (xs : List Rule) (hn : xs.length ≤ 4611686018427387904) (k : Nat) (h : k + mkR xs ≤ 4611686018427387904) : laws_markRuleS xs (k : Int) = some (((k + mkR xs : Nat) : Int)) := by
  unfold laws_markRuleS
  rw [mark_gen xs (fun r => 4 * r.Tests.length + 2) k h (fun k j hj hk => by
    unfold laws_markRuleS_L0
    simp only [lt_true (show (j : Int) < (xs.length : Int) by omega), cond_true, idx_get hj, Option.bind_some, mark_TestS xs[j].Tests k (by omega)]
    rw [W_k (k := k + 4 * xs[j].Tests.length) (by omega), W_k (k := k + 4 * xs[j].Tests.length + 1) (by omega), W_succ (show j < 9223372036854775807 by omega)]
    rfl) (fun k => by
    unfold laws_markRuleS_L0
    simp only [lt_false (Int.le_refl _), cond_false])]
  rfl
theorem mkR_le (rs : List Rule) : mkR rs ≤ 6 * wRuleS rs := sum_le_wt (fun r => by unfold wRule; omega) rs
def mkRS (cs : List (List Rule)) : Nat := (cs.map mkR).sum
theorem mkRS_le (cs : List (List Rule)) : mkRS cs ≤ 6 * wRuleSS cs := sum_le_wt (fun rs => by have := mkR_le rs; omega) cs
theorem mark_RuleSS (xs : List (List Rule)) (hn : xs.length ≤ 4611686018427387904) (hx : ∀ rs ∈ xs, rs.length ≤ 4611686018427387904) (k : Nat) (h : k + mkRS xs ≤ 4611686018427387904) : laws_markRuleSS xs (k : Int) = some (((k + mkRS xs : Nat) : Int)) := by
  unfold laws_markRuleSS
  rw [mark_gen xs mkR k h (fun k j hj hk => by
    unfold laws_markRuleSS_L0
    simp only [lt_true (show (j : Int) < (xs.length : Int) by omega), cond_true, idx_get hj, Option.bind_some, mark_RuleS xs[j] (hx _ (List.getElem_mem hj)) k hk]
    rw [W_succ (show j < 9223372036854775807 by omega)]) (fun k => by
    unfold laws_markRuleSS_L0
    simp only [lt_false (Int.le_refl _), cond_false])]
  rfl
theorem mark_Rs {s : Ruleset} (h : wRs s ≤ 1048576) : ∃ k : Nat, laws_markRuleset s 1 = some (k : Int) := by
  have h1 := mkRS_le s.Chains
  have h2 : wRuleSS s.Chains ≤ 1048576 := h
  have hs := wtL_small h2
  have e := mark_RuleSS s.Chains (by omega) (fun rs hr => by have := hs.2 rs hr; have := wtL_small this; omega) 1 (by omega)
  refine ⟨1 + mkRS s.Chains, ?_⟩
  unfold laws_markRuleset
  have e' : laws_markRuleSS s.Chains (1 : Int) = some _ := e
  rw [e']; rfl
/-- The list with numbers written over. -/
def markL {α : Type} (f : Nat → α → α) (c : Nat) : Nat → List α → List α
  | _, [] => []
  | k, x :: xs => f k x :: markL f c (k + c) xs
theorem markL_len {α : Type} (f : Nat → α → α) (c : Nat) : ∀ (k : Nat) (xs : List α), (markL f c k xs).length = xs.length
  | _, [] => rfl
  | k, x :: xs => by rw [markL, List.length_cons, markL_len f c, List.length_cons]
theorem markL_app {α : Type} (f : Nat → α → α) (c : Nat) : ∀ (k : Nat) (xs ys : List α), markL f c k (xs ++ ys) = markL f c k xs ++ markL f c (k + c * xs.length) ys
  | k, [], ys => by simp [markL]
  | k, x :: xs, ys => by
    rw [List.cons_append, markL, markL_app f c, markL, List.cons_append, List.length_cons]
    congr 3
    rw [Nat.mul_add]; omega
theorem markL_get {α : Type} (f : Nat → α → α) (c : Nat) : ∀ (k : Nat) (xs : List α) (j : Nat) (hj : j < xs.length), (markL f c k xs)[j]'(by rw [markL_len]; exact hj) = f (k + c * j) xs[j]
  | k, x :: xs, 0, _ => by simp [markL]
  | k, x :: xs, j + 1, hj => by
    simp only [markL, List.getElem_cons_succ]
    rw [markL_get f c (k + c) xs j (by simpa using hj)]
    congr 1
    rw [Nat.mul_add]; omega
theorem mark_own {α : Type} {f : Nat → α → α} {c : Nat} (xs : List α) {body : Int × Int × List α → Option (SR (Int × Int × List α) (Int × List α))} (k0 : Nat) (hL : k0 + c * xs.length ≤ 4611686018427387904)
    (hb : ∀ (k j : Nat) (ys : List α) (hj : j < ys.length), ys.length = xs.length → k + c ≤ 4611686018427387904 → body ((k : Int), (j : Int), ys) = some (.nxt (((k + c : Nat) : Int), ((j + 1 : Nat) : Int), ys.set j (f k ys[j]))))
    (he : ∀ (k : Int) (ys : List α), ys.length = xs.length → body (k, (xs.length : Int), ys) = some (.brk (k, (xs.length : Int), ys))) :
    loopF body (((xs.length : Int)) - 0).toNat.succ ((k0 : Int), 0, xs) = some (.brk (((k0 + c * xs.length : Nat) : Int), (xs.length : Int), markL f c k0 xs)) := by
  refine loop_brk0 (body := body) xs.length (fun j : Nat => (((k0 + c * j : Nat) : Int), (j : Int), markL f c k0 (xs.take j) ++ xs.drop j)) (by simp [markL]) (fun j hj => ?_) (by
    simp only [List.take_length, List.drop_length, List.append_nil]
    exact he _ _ (markL_len f c _ _)) (by omega)
  have hlen : (markL f c k0 (xs.take j) ++ xs.drop j).length = xs.length := by
    rw [List.length_append, markL_len, ← List.length_append, List.take_append_drop]
  have hml : (markL f c k0 (xs.take j)).length = j := by rw [markL_len, List.length_take]; omega
  have hj' : j < (markL f c k0 (xs.take j) ++ xs.drop j).length := by omega
  have hcj : k0 + c * j + c ≤ 4611686018427387904 := by
    have : c * (j + 1) ≤ c * xs.length := Nat.mul_le_mul_left c hj
    rw [Nat.mul_add] at this; omega
  have hg : (markL f c k0 (xs.take j) ++ xs.drop j)[j] = xs[j] := by
    rw [List.getElem_append_right (by omega)]
    simp [hml]
  rw [hb _ j _ hj' hlen hcj, hg]
  have hd : xs.drop j = xs[j] :: xs.drop (j + 1) := List.drop_eq_getElem_cons hj
  have e1 : (markL f c k0 (xs.take j) ++ xs.drop j).set j (f (k0 + c * j) xs[j]) = markL f c k0 (xs.take (j + 1)) ++ xs.drop (j + 1) := by
    rw [hd, List.set_append_right _ _ (by omega), hml, Nat.sub_self, List.set_cons_zero, take_snoc (List.getElem?_eq_getElem hj), markL_app, List.append_assoc]
    have : (xs.take j).length = j := by rw [List.length_take]; omega
    rw [this]; rfl
  rw [e1, Nat.mul_add, Nat.mul_one, Nat.add_assoc]
theorem held_gen {α : Type} (zs : List α) {body : Int × Int → Option (SR (Int × Int) Int)} (c k0 : Nat)
    (hb : ∀ (j : Nat), j < zs.length → body (((k0 + c * j : Nat) : Int), (j : Int)) = some (.nxt (((k0 + c * j + c : Nat) : Int), ((j + 1 : Nat) : Int))))
    (he : ∀ k : Int, body (k, (zs.length : Int)) = some (.brk (k, (zs.length : Int)))) :
    loopF body (((zs.length : Int)) - 0).toNat.succ ((k0 : Int), 0) = some (.brk (((k0 + c * zs.length : Nat) : Int), (zs.length : Int))) := by
  refine loop_brk0 (body := body) zs.length (fun j : Nat => (((k0 + c * j : Nat) : Int), (j : Int))) (by simp) (fun j hj => ?_) (he _) (by omega)
  rw [hb j hj, Nat.mul_add, Nat.mul_one, Nat.add_assoc]
def fInt : Nat → Int → Int := fun k _ => (k : Int)
theorem mark_ints (xs : List Int) (h : 1 + xs.length ≤ 4611686018427387904) : laws_markIntS_r xs 1 = some (((1 + 1 * xs.length : Nat) : Int), markL fInt 1 1 xs) := by
  unfold laws_markIntS_r
  have := mark_own (f := fInt) (c := 1) xs (body := laws_markIntS_r_L0) 1 (by omega) (fun k j ys hj hl hk => by
    unfold laws_markIntS_r_L0
    simp only [lt_true (show (j : Int) < (ys.length : Int) by omega), cond_true, idx_get hj, Option.bind_some, Int.toNat_natCast]
    rw [W_k (by omega), W_succ (show j < 9223372036854775807 by omega)]; rfl) (fun k ys hl => by
    unfold laws_markIntS_r_L0
    simp only [hl, lt_false (Int.le_refl _), cond_false])
  have this' : loopF laws_markIntS_r_L0 (((xs.length : Int)) - 0).toNat.succ ((1 : Int), 0, xs) = some _ := this
  rw [this']; rfl
theorem held_ints (xs : List Int) (h : 1 + xs.length ≤ 4611686018427387904) : laws_heldIntS (markL fInt 1 1 xs) 1 = some (((1 + 1 * xs.length : Nat) : Int)) := by
  unfold laws_heldIntS
  have hl := markL_len fInt 1 1 xs
  have := held_gen (markL fInt 1 1 xs) (body := laws_heldIntS_L0 (markL fInt 1 1 xs)) 1 1 (fun j hj => by
    have hj' : j < xs.length := by omega
    unfold laws_heldIntS_L0
    simp only [lt_true (show (j : Int) < ((markL fInt 1 1 xs).length : Int) by omega), cond_true, idx_get hj, Option.bind_some, markL_get fInt 1 1 xs j hj']
    rw [show (fInt (1 + 1 * j) xs[j] != ((1 + 1 * j : Nat) : Int)) = false by unfold fInt; simp, cond_false, W_k (by omega), W_succ (show j < 9223372036854775807 by omega)]) (fun k => by
    unfold laws_heldIntS_L0
    simp only [lt_false (Int.le_refl _), cond_false])
  have this' : loopF (laws_heldIntS_L0 (markL fInt 1 1 xs)) ((((markL fInt 1 1 xs).length : Int)) - 0).toNat.succ ((1 : Int), 0) = some _ := this
  rw [this', hl]; rfl
theorem eq_ints (xs : List Int) (h : xs.length ≤ 9223372036854775807) : laws_eqIntS xs xs = some true := by
  have := eq_list (f := fun x y => some (decide (x = y))) (body := laws_eqIntS_L0 xs xs) xs xs h (fun _ _ _ _ => rfl) (fun k => ?_)
  · unfold laws_eqIntS
    rw [this]; simp
  · unfold laws_eqIntS_L0
    congr 1
    cases idx xs k with
    | none => rfl
    | some x => simp
theorem plain_FnExactCallsOf (a : Ruleset) (b : Int) (ga : G_Ruleset a) (_gb : GInt b) : laws_FnExactCallsOf a b = some true := by
  have ha := rs_of_G ga
  unfold laws_FnExactCallsOf
  rw [sz_Rs (by decide) (by decide) ha, Option.bind_some]
  by_cases hs : wRs a ≤ 1048576
  · obtain ⟨r, e1, e2, h1, h2⟩ := calls_is ha b
    have hr : r.length ≤ 5 := by
      by_cases hall : RSV a ∧ 0 ≤ b ∧ b < a.Chains.length
      · rw [h1 hall.1 hall.2.1 hall.2.2, castL_len]; exact callN_len _
      · rw [h2 hall]; simp
    obtain ⟨k, ek⟩ := mark_Rs hs
    have e2' : impl_CallsOf ({ Chains := a.Chains, Accept := a.Accept } : Ruleset) b = some r := e2
    have e3' : laws_eqRuleset ({ Chains := a.Chains, Accept := a.Accept } : Ruleset) a = some true := eq_Rs a ha
    rw [left_pos hs, cond_false, to_Rs (sm_Rs hs), Option.bind_some, e1, Option.bind_some, e2', Option.bind_some, eq_ints r (by omega), Option.bind_some, cond_true, e3', Option.bind_some, cond_true, ek, Option.bind_some, decide_eq_false (by omega : ¬ ((k : Int) < 0)), cond_false, mark_ints r (by omega), Option.bind_some, held_ints r (by omega), Option.bind_some, decide_eq_false (by omega : ¬ (((1 + 1 * r.length : Nat) : Int) < 0)), cond_false, bne_self_eq_false, cond_false, Option.bind_some, eq_ints r (by omega)]
    rfl
  · rw [left_neg hs]; rfl
theorem plain_FnExactChainsUsed (a : Ruleset) (ga : G_Ruleset a) : laws_FnExactChainsUsed a = some true := by
  have ha := rs_of_G ga
  unfold laws_FnExactChainsUsed
  rw [sz_Rs (by decide) (by decide) ha, Option.bind_some]
  by_cases hs : wRs a ≤ 1048576
  · obtain ⟨r, e1, e2, h1, h2⟩ := used_is ha
    have hr : r.length ≤ 5 := by
      by_cases hall : RSV a
      · rw [h1 hall, castL_len]
        have := usedN_len (cs := a.Chains)
        have := hall.1.n5
        omega
      · rw [h2 hall]; simp
    obtain ⟨k, ek⟩ := mark_Rs hs
    have e2' : impl_ChainsUsed ({ Chains := a.Chains, Accept := a.Accept } : Ruleset) = some r := e2
    have e3' : laws_eqRuleset ({ Chains := a.Chains, Accept := a.Accept } : Ruleset) a = some true := eq_Rs a ha
    rw [left_pos hs, cond_false, to_Rs (sm_Rs hs), Option.bind_some, e1, Option.bind_some, e2', Option.bind_some, eq_ints r (by omega), Option.bind_some, cond_true, e3', Option.bind_some, cond_true, ek, Option.bind_some, decide_eq_false (by omega : ¬ ((k : Int) < 0)), cond_false, mark_ints r (by omega), Option.bind_some, held_ints r (by omega), Option.bind_some, decide_eq_false (by omega : ¬ (((1 + 1 * r.length : Nat) : Int) < 0)), cond_false, bne_self_eq_false, cond_false, Option.bind_some, eq_ints r (by omega)]
    rfl
  · rw [left_neg hs]; rfl
end Go.PF.F
