import Derived.Test.YtbnndochnkkllaaDoorPlAE
import Derived.Test.YtbnndochnkkllaaDoorPlP
/- Plain laws: called chains, depths of calls. -/
namespace Go.PF.F
open Go Go.PF

end Go.PF.F

/- Plain laws: numbers that are written over; ExactCallsOf, ExactChainsUsed. -/
namespace Go.PF.F
open Go Go.PF

/-- A loop that only counts. -/
theorem mark_gen {α : Type} (xs : List α) (inc : α → Nat) {body : Int × Int → Option (SR (Int × Int) Int)} (k0 : Nat) (hL : k0 + (xs.map inc).sum ≤ 4611686018427387904)
    (hb : ∀ (k j : Nat) (hj : j < xs.length), k + inc xs[j] ≤ 4611686018427387904 → body ((k : Int), (j : Int)) = some (.nxt (((k + inc xs[j] : Nat) : Int), ((j + 1 : Nat) : Int))))
    (he : ∀ k : Int, body (k, (xs.length : Int)) = some (.brk (k, (xs.length : Int)))) :
    loopF body (((xs.length : Int)) - 0).toNat.succ ((k0 : Int), 0) = some (.brk (((k0 + (xs.map inc).sum : Nat) : Int), (xs.length : Int))) := by
  refine loop_brk0 (body := body) xs.length (fun j : Nat => (((k0 + ((xs.take j).map inc).sum : Nat) : Int), (j : Int))) (by simp) (fun j hj => ?_) (by simp only [List.take_length]; exact he _) (by omega)
  have h1 : ((xs.take (j + 1)).map inc).sum = ((xs.take j).map inc).sum + inc xs[j] := by rw [take_snoc (List.getElem?_eq_getElem hj), List.map_append, List.sum_append]; simp
  have h2 : ((xs.take (j + 1)).map inc).sum + ((xs.drop (j + 1)).map inc).sum = (xs.map inc).sum := by rw [← List.sum_append, ← List.map_append, List.take_append_drop]
  rw [hb _ j hj (by omega), h1, Nat.add_assoc]
theorem sum_const {α : Type} (xs : List α) (c : Nat) : (xs.map fun _ => c).sum = c * xs.length := by
  induction xs with
  | nil => simp
  | cons x xs ih => rw [List.map_cons, List.sum_cons, ih, List.length_cons, Nat.mul_add]; omega
theorem sum_le_wt {α : Type} {inc wt : α → Nat} {c : Nat} (h : ∀ x, inc x ≤ c * (wt x + 1)) (xs : List α) : (xs.map inc).sum ≤ c * wtL wt xs := by
  unfold wtL
  induction xs with
  | nil => simp
  | cons x xs ih =>
    rw [List.map_cons, List.sum_cons, List.map_cons, List.sum_cons, List.length_cons]
    have := h x
    have e : c * (xs.length + 1 + (wt x + (xs.map wt).sum)) = c * (wt x + 1) + c * (xs.length + (xs.map wt).sum) := by rw [← Nat.mul_add]; congr 1; omega
    rw [e]
    omega
theorem W_k {k : Nat} (h : k + 1 ≤ 4611686018427387904) : W ((k : Int) + 1) = ((k + 1 : Nat) : Int) := W_succ (by omega)
theorem mark_TestS (xs : List Test) (k : Nat) (h : k + 4 * xs.length ≤ 4611686018427387904) : laws_markTestS xs (k : Int) = some (((k + 4 * xs.length : Nat) : Int)) := by
  unfold laws_markTestS
  rw [mark_gen xs (fun _ => 4) k (by rw [sum_const]; exact h) (fun k j hj hk => by
    unfold laws_markTestS_L0
    simp only [lt_true (show (j : Int) < (xs.length : Int) by omega), cond_true, idx_get hj, Option.bind_some]
    rw [W_k (k := k) (by omega), W_k (k := k + 1) (by omega), W_k (k := k + 1 + 1) (by omega), W_k (k := k + 1 + 1 + 1) (by omega), W_succ (show j < 9223372036854775807 by omega)]) (fun k => by
    unfold laws_markTestS_L0
    simp only [lt_false (Int.le_refl _), cond_false]), sum_const]
  rfl
def mkR (rs : List Rule) : Nat := (rs.map fun r => 4 * r.Tests.length + 2).sum
theorem mark_RuleS (xs : List Rule) (hn : xs.length ≤ 4611686018427387904) (k : Nat) (h : k + mkR xs ≤ 4611686018427387904) : laws_markRuleS xs (k : Int) = some (((k + mkR xs : Nat) : Int)) := by
  unfold laws_markRuleS
  rw [mark_gen xs (fun r => 4 * r.Tests.length + 2) k h (fun k j hj hk => by
    unfold laws_markRuleS_L0
    simp only [lt_true (show (j : Int) < (xs.length : Int) by omega), cond_true, idx_get hj, Option.bind_some, mark_TestS xs[j].Tests k (by omega)]
    rw [W_k (k := k + 4 * xs[j].Tests.length) (by omega), W_k (k := k + 4 * xs[j].Tests.length + 1) (by omega), W_succ (show j < 9223372036854775807 by omega)]
    rfl) (fun k => by
    unfold laws_markRuleS_L0
    simp only [lt_false (Int.le_refl _), cond_false])]
  rfl
theorem mkR_le (rs : List Rule) : mkR rs ≤ 6 * wRuleS rs := sum_le_wt (fun r => by unfold wRule; omega) rs
def mkRS (cs : List (List Rule)) : Nat := (cs.map mkR).sum
theorem mkRS_le (cs : List (List Rule)) : mkRS cs ≤ 6 * wRuleSS cs := sum_le_wt (fun rs => by have := mkR_le rs; omega) cs
theorem mark_RuleSS (xs : List (List Rule)) (hn : xs.length ≤ 4611686018427387904) (hx : ∀ rs ∈ xs, rs.length ≤ 4611686018427387904) (k : Nat) (h : k + mkRS xs ≤ 4611686018427387904) : laws_markRuleSS xs (k : Int) = some (((k + mkRS xs : Nat) : Int)) := by
  unfold laws_markRuleSS
  rw [mark_gen xs mkR k h (fun k j hj hk => by
    unfold laws_markRuleSS_L0
    simp only [lt_true (show (j : Int) < (xs.length : Int) by omega), cond_true, idx_get hj, Option.bind_some, mark_RuleS xs[j] (hx _ (List.getElem_mem hj)) k hk]
    rw [W_succ (show j < 9223372036854775807 by omega)]) (fun k => by
    unfold laws_markRuleSS_L0
    simp only [lt_false (Int.le_refl _), cond_false])]
  rfl
theorem mark_Rs {s : Ruleset} (h : wRs s ≤ 1048576) : ∃ k : Nat, laws_markRuleset s 1 = some (k : Int) := by
  have h1 := mkRS_le s.Chains
  have h2 : wRuleSS s.Chains ≤ 1048576 := h
  have hs := wtL_small h2
  have e := mark_RuleSS s.Chains (by omega) (fun rs hr => by have := hs.2 rs hr; have := wtL_small this; omega) 1 (by omega)
  refine ⟨1 + mkRS s.Chains, ?_⟩
  unfold laws_markRuleset
  have e' : laws_markRuleSS s.Chains (1 : Int) = some _ := e
  rw [e']; rfl
/-- The list with numbers written over. -/
def markL {α : Type} (f : Nat → α → α) (c : Nat) : Nat → List α → List α
  | _, [] => []
  | k, x :: xs => f k x :: markL f c (k + c) xs
theorem markL_len {α : Type} (f : Nat → α → α) (c : Nat) : ∀ (k : Nat) (xs : List α), (markL f c k xs).length = xs.length
  | _, [] => rfl
  | k, x :: xs => by rw [markL, List.length_cons, markL_len f c, List.length_cons]
theorem markL_app {α : Type} (f : Nat → α → α) (c : Nat) : ∀ (k : Nat) (xs ys : List α), markL f c k (xs ++ ys) = markL f c k xs ++ markL f c (k + c * xs.length) ys
  | k, [], ys => by simp [markL]
  | k, x :: xs, ys => by
    rw [List.cons_append, markL, markL_app f c, markL, List.cons_append, List.length_cons]
    congr 3
    rw [Nat.mul_add]; omega
theorem markL_get {α : Type} (f : Nat → α → α) (c : Nat) : ∀ (k : Nat) (xs : List α) (j : Nat) (hj : j < xs.length), (markL f c k xs)[j]'(by rw [markL_len]; exact hj) = f (k + c * j) xs[j]
  | k, x :: xs, 0, _ => by simp [markL]
  | k, x :: xs, j + 1, hj => by
    simp only [markL, List.getElem_cons_succ]
    rw [markL_get f c (k + c) xs j (by simpa using hj)]
    congr 1
    rw [Nat.mul_add]; omega
theorem mark_own {α : Type} {f : Nat → α → α} {c : Nat} (xs : List α) {body : Int × Int × List α → Option (SR (Int × Int × List α) (Int × List α))} (k0 : Nat) (hL : k0 + c * xs.length ≤ 4611686018427387904)
    (hb : ∀ (k j : Nat) (ys : List α) (hj : j < ys.length), ys.length = xs.length → k + c ≤ 4611686018427387904 → body ((k : Int), (j : Int), ys) = some (.nxt (((k + c : Nat) : Int), ((j + 1 : Nat) : Int), ys.set j (f k ys[j]))))
    (he : ∀ (k : Int) (ys : List α), ys.length = xs.length → body (k, (xs.length : Int), ys) = some (.brk (k, (xs.length : Int), ys))) :
    loopF body (((xs.length : Int)) - 0).toNat.succ ((k0 : Int), 0, xs) = some (.brk (((k0 + c * xs.length : Nat) : Int), (xs.length : Int), markL f c k0 xs)) := by
  refine loop_brk0 (body := body) xs.length (fun j : Nat => (((k0 + c * j : Nat) : Int), (j : Int), markL f c k0 (xs.take j) ++ xs.drop j)) (by simp [markL]) (fun j hj => ?_) (by
    simp only [List.take_length, List.drop_length, List.append_nil]
    exact he _ _ (markL_len f c _ _)) (by omega)
  have hlen : (markL f c k0 (xs.take j) ++ xs.drop j).length = xs.length := by
    rw [List.length_append, markL_len, ← List.length_append, List.take_append_drop]
  have hml : (markL f c k0 (xs.take j)).length = j := by rw [markL_len, List.length_take]; omega
  have hj' : j < (markL f c k0 (xs.take j) ++ xs.drop j).length := by omega
  have hcj : k0 + c * j + c ≤ 4611686018427387904 := by
    have : c * (j + 1) ≤ c * xs.length := Nat.mul_le_mul_left c hj
    rw [Nat.mul_add] at this; omega
  have hg : (markL f c k0 (xs.take j) ++ xs.drop j)[j] = xs[j] := by
    rw [List.getElem_append_right (by omega)]
    simp [hml]
  rw [hb _ j _ hj' hlen hcj, hg]
  have hd : xs.drop j = xs[j] :: xs.drop (j + 1) := List.drop_eq_getElem_cons hj
  have e1 : (markL f c k0 (xs.take j) ++ xs.drop j).set j (f (k0 + c * j) xs[j]) = markL f c k0 (xs.take (j + 1)) ++ xs.drop (j + 1) := by
    rw [hd, List.set_append_right _ _ (by omega), hml, Nat.sub_self, List.set_cons_zero, take_snoc (List.getElem?_eq_getElem hj), markL_app, List.append_assoc]
    have : (xs.take j).length = j := by rw [List.length_take]; omega
    rw [this]; rfl
  rw [e1, Nat.mul_add, Nat.mul_one, Nat.add_assoc]
theorem held_gen {α : Type} (zs : List α) {body : Int × Int → Option (SR (Int × Int) Int)} (c k0 : Nat)
    (hb : ∀ (j : Nat), j < zs.length → body (((k0 + c * j : Nat) : Int), (j : Int)) = some (.nxt (((k0 + c * j + c : Nat) : Int), ((j + 1 : Nat) : Int))))
    (he : ∀ k : Int, body (k, (zs.length : Int)) = some (.brk (k, (zs.length : Int)))) :
    loopF body (((zs.length : Int)) - 0).toNat.succ ((k0 : Int), 0) = some (.brk (((k0 + c * zs.length : Nat) : Int), (zs.length : Int))) := by
  refine loop_brk0 (body := body) zs.length (fun j : Nat => (((k0 + c * j : Nat) : Int), (j : Int))) (by simp) (fun j hj => ?_) (he _) (by omega)
  rw [hb j hj, Nat.mul_add, Nat.mul_one, Nat.add_assoc]
end Go.PF.F

/- Plain laws: what meetings and boxes of tests have. -/
namespace Go.PF.F
open Go Go.PF

theorem B4.ext {s t : List (List Span)} (hs : B4 s) (ht : B4 t) (h : ∀ k, k < 4 → ∀ v, has (sd s k) v = has (sd t k) v) : s = t :=
  ext4 hs.1 ht.1 fun k hk => (hs.2 k hk).ext (ht.2 k hk) (h k hk)
end Go.PF.F

/- Plain laws: boxes of tests, first packets, probes. -/
namespace Go.PF.F
open Go Go.PF

/-! Draws. -/
/-! Boxes of tests. -/
theorem impl_testSpans {t : Test} (h : TV t) : impl_Test_spans t = some (testL t) := by
  have ht := top_pos h.field.2
  have h2 := h.2
  unfold impl_Test_spans testL
  cases hn : t.Not with
  | false => rfl
  | true =>
    rw [cond_true, if_pos rfl]
    have e : impl_FieldTop t.Field = some (topOf t.Field.toNat) := by
      have := impl_top t.Field.toNat
      rwa [← h.field.1] at this
    simp only [e, Option.bind_some]
    unfold otherL otherL
    simp only
    rw [W_of (by omega) (by omega), W_of (by omega) (by omega)]
    by_cases h1 : 0 < t.Lo
    · rw [decide_eq_true h1, if_pos h1, cond_true, app_ok (by simp), Option.bind_some]
      by_cases h3 : t.Hi < topOf t.Field.toNat
      · rw [decide_eq_true h3, if_pos (by omega), cond_true, app_ok (by simp)]; rfl
      · rw [decide_eq_false h3, if_neg (by omega)]; rfl
    · rw [decide_eq_false h1, if_neg h1, cond_false]
      by_cases h3 : t.Hi < topOf t.Field.toNat
      · rw [decide_eq_true h3, if_pos (by omega), cond_true, app_ok (by simp)]; rfl
      · rw [decide_eq_false h3, if_neg (by omega)]; rfl
theorem impl_testsSides_is {ts : List Test} (h : TsV ts) : impl_testsSides ts = some (testsS ts) := by
  have hl : ts.length ≤ 6 := by have := h.2; omega
  unfold impl_testsSides
  rw [impl_all, Option.bind_some]
  have := loop_each (body := impl_testsSides_L0 ts) ts (fun s k => (k, s)) (fun s t => s.set t.Field.toNat (meetL (sd s t.Field.toNat) (testL t))) fullS (fun s => ((ts.length : Int), s)) (fuel := ((((ts.length : Int)) : Int) - 0).toNat.succ) (by omega)
    (fun k t hk ht => by
      have hv := h.1 t (List.mem_of_getElem? ht)
      have hs := testsS_ok (ts.take k) fullS (fun z hz => h.1 z (List.mem_of_mem_take hz)) full_B4
      have hlen := testsS_len (ts.take k) fullS (fun z hz => h.1 z (List.mem_of_mem_take hz)) full_B4 1 (fun j hj => by unfold fullS; rw [sd_mk4 _ hj]; simp) _ hv.field.2
      rw [List.length_take] at hlen
      generalize (ts.take k).foldl (fun s t => s.set t.Field.toNat (meetL (sd s t.Field.toNat) (testL t))) fullS = s at hs hlen
      have hi := sd_idx hs.1 hv.field.2
      rw [← hv.field.1] at hi
      have htop := impl_top t.Field.toNat
      rw [← hv.field.1] at htop
      have h2 := testL_len t
      have hm := (hs.2 _ hv.field.2).meet_few hv.set
      unfold impl_testsSides_L0
      simp only [lt_true (show (k : Int) < (ts.length : Int) by omega), cond_true, idx_nat, ht, Option.bind_some, hi, impl_testSpans hv, htop, impl_meet (hs.2 _ hv.field.2) hv.set, W_succ (show k < 9223372036854775807 by omega)]
      rw [if_pos (by omega)])
    (by
      unfold impl_testsSides_L0
      simp only [lt_false (Int.le_refl _), cond_false])
  rw [this]; rfl
theorem B4.few_len {s : List (List Span)} (h : B4 s) (hf : Few s) : ∀ x ∈ s, x.length ≤ 40 := fun x hx => (OkB.of h hf).2 x hx
theorem tb {ts : List Test} (hl : ts.length ≤ 1000) : ∃ b, impl_TestsBox ts = some b ∧ spec_TestsBox ts = some b ∧ OkBox b ∧ (TsV ts → b = ⟨testsS ts⟩) ∧ (¬ TsV ts → b = ⟨[]⟩) := by
  obtain ⟨v, e1, e2, hv⟩ := (impl_tests (xs := ts) (by omega)).same (spec_tests (xs := ts) (by omega))
  cases v with
  | true =>
    have h := hv.1 rfl
    refine ⟨⟨testsS ts⟩, ?_, spec_testsBox h, B4.ok (b := ⟨testsS ts⟩) (testsS_B4 h.1), fun _ => rfl, fun hn => absurd h hn⟩
    unfold impl_TestsBox
    rw [e1, Option.bind_some, cond_true, impl_testsSides_is h, Option.bind_some, impl_box4 (testsS_B4 h.1).1 fun x hx => by have := (testsS_B4 h.1).few_len (testsS_few h) x hx; omega]; rfl
  | false =>
    have h : ¬ TsV ts := fun h => by simpa using hv.2 h
    refine ⟨⟨[]⟩, ?_, ?_, ⟨by simp, by simp⟩, fun hy => absurd hy h, fun _ => rfl⟩
    · unfold impl_TestsBox; rw [e1]; rfl
    · unfold spec_TestsBox; rw [e2]; rfl

/-! Probes. -/
/-! The laws. -/
end Go.PF.F

/- Plain laws: tests of boxes. -/
namespace Go.PF.F
open Go Go.PF

/-- What the tests of the first k fields are. -/
structure BT (s : List (List Span)) (k : Nat) (ts : List Test) : Prop where
  len : ts.length ≤ k
  field : ∀ t ∈ ts, 0 ≤ t.Field ∧ t.Field < (k : Int)
  asc : ts.Pairwise fun a b => a.Field < b.Field
  tv : ∀ t ∈ ts, TV t
  has : ∀ j, j < k → ∀ v, (decide (0 ≤ v ∧ v ≤ topOf j) && ts.all fun t => t.Field.toNat != j || F.has (testL t) v) = F.has (sd s j) v
end Go.PF.F

/- Plain laws: ExactBoxTests. -/
namespace Go.PF.F
open Go Go.PF

theorem idx_set {α : Type} {xs : List α} {j : Nat} (h : j < xs.length) (x : α) : idx (xs.set j x) (j : Int) = some x := by
  rw [idx_get (by rw [List.length_set]; exact h), List.getElem_set_self]
end Go.PF.F

/- Plain laws: meetings of boxes, packets in boxes and regions. -/
namespace Go.PF.F
open Go Go.PF

theorem TsV.take {ts : List Test} (h : TsV ts) (k : Nat) : TsV (ts.take k) := ⟨fun t ht => h.1 t (List.mem_of_mem_take ht), by have := h.2; simp; omega⟩
theorem TsV.drop {ts : List Test} (h : TsV ts) (k : Nat) : TsV (ts.drop k) := ⟨fun t ht => h.1 t (List.mem_of_mem_drop ht), by have := h.2; simp; omega⟩
/-! Packets that lie in boxes. -/
theorem RV.take {bs : List Box} (h : RV bs) (k : Nat) : RV (bs.take k) := ⟨fun b hb => h.1 b (List.mem_of_mem_take hb), by have := h.2; simp; omega⟩
theorem RV.drop {bs : List Box} (h : RV bs) (k : Nat) : RV (bs.drop k) := ⟨fun b hb => h.1 b (List.mem_of_mem_drop hb), by have := h.2; simp; omega⟩
end Go.PF.F

/- Plain laws: two boxes. -/
namespace Go.PF.F
open Go Go.PF

theorem OkB.set {s : List (List Span)} (h : OkB ⟨s⟩) (k : Nat) {x : List Span} (hx : x.length ≤ 40) : OkB ⟨s.set k x⟩ := ⟨by have := h.1; simp at this ⊢; omega, fun y hy => by
  rcases List.mem_or_eq_of_mem_set hy with hm | hm
  · exact h.2 y hm
  · rw [hm]; exact hx⟩
theorem SameS.symm {a b : List (List Span)} (ha : B4 a) (hb : B4 b) : SameS a b ↔ SameS b a := by
  rw [← same_iff ha hb, ← same_iff hb ha]; exact And.comm
end Go.PF.F
