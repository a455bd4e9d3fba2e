/- Plain laws: walks through a ruleset, judging. -/
import Derived.Test.YtbnndochnkkllaaDoorPlR
namespace Go.PF.F
open Go Go.PF

/-- All tests of the rule hold. -/
def holdB (p : Packet) (r : Rule) : Bool := r.Tests.all fun t => (decide (t.Lo ≤ pf p t.Field.toNat ∧ pf p t.Field.toNat ≤ t.Hi) != t.Not)
theorem holdB_iff {p : Packet} {r : Rule} : holdB p r = true ↔ ∀ t ∈ r.Tests, TH t p := by
  unfold holdB; rw [List.all_eq_true]; exact Iff.rfl
theorem impl_hold {r : Rule} (h : RuV r) (p : Packet) : impl_allHold r.Tests p = some (holdB p r) := by
  have hl := h.1.2
  obtain ⟨b, e, hb⟩ := impl_allhold (ts := r.Tests) (by omega) h.1.1 p
  rw [e, show b = holdB p r by rw [Bool.eq_iff_iff, hb, holdB_iff]]
theorem spec_hold {r : Rule} (h : RuV r) {p : Packet} (hp : PV p) : spec_TestsHold r.Tests p = some (holdB p r) := by
  have hl := h.1.2
  have hl' : r.Tests.length ≤ 9223372036854775807 := by omega
  obtain ⟨b, e, hb⟩ : Dec (spec_TestsHold r.Tests p) ((∀ t ∈ r.Tests, TV t ∧ PV p ∧ TH t p) ∧ TsV r.Tests ∧ PV p) :=
    Dec.all (body := spec_TestsHold_L0 r.Tests p) (P := fun t => TV t ∧ PV p ∧ TH t p) (Q := TsV r.Tests ∧ PV p) hl' (fun x _ => spec_holds x p)
      (fun _ => (spec_tests hl').and fun _ => (spec_packet p).ret) (fun _ => rfl)
  rw [e, show b = holdB p r by rw [Bool.eq_iff_iff, hb, holdB_iff]; exact ⟨fun x t ht => (x.1 t ht).2.2, fun x => ⟨fun t ht => ⟨h.1.1 t ht, hp, x t ht⟩, h.1, hp⟩⟩]
/-- A visit is noted, while there is room. -/
def see (v : List Visit) (c k : Nat) : List Visit := if v.length < 200 then v ++ [⟨(c : Int), (k : Int)⟩] else v
theorem see_len {v : List Visit} (h : v.length ≤ 200) (c k : Nat) : (see v c k).length ≤ 200 := by
  unfold see; split
  · simp; omega
  · exact h
/-- A walk through rules from number k on. -/
def wkL (p : Packet) (rec : Nat → List Visit → Int × List Visit) (c : Nat) : Nat → List Rule → List Visit → Int × List Visit
  | _, [], v => (5, v)
  | k, r :: rs, v =>
    if holdB p r then
      if r.Action = 1 then (1, see v c k)
      else if r.Action = 2 then (2, see v c k)
      else if r.Action = 4 then (5, see v c k)
      else if r.Action = 3 then
        if (rec r.Chain.toNat (see v c k)).1 = 5 then wkL p rec c (k + 1) rs (rec r.Chain.toNat (see v c k)).2 else rec r.Chain.toNat (see v c k)
      else wkL p rec c (k + 1) rs (see v c k)
    else wkL p rec c (k + 1) rs v
def wk (cs : List (List Rule)) (p : Packet) : Nat → Nat → List Visit → Int × List Visit
  | 0, _, v => (5, v)
  | f + 1, c, v => wkL p (wk cs p f) c 0 (ch cs c) v
/-- What a walk's answer is. -/
def Wok (r : Int × List Visit) : Prop := (r.1 = 1 ∨ r.1 = 2 ∨ r.1 = 5) ∧ r.2.length ≤ 200
theorem wkL_ok (p : Packet) {rec : Nat → List Visit → Int × List Visit} (hr : ∀ d v, v.length ≤ 200 → Wok (rec d v)) (c : Nat) : ∀ (rs : List Rule) (k : Nat) (v : List Visit), v.length ≤ 200 → Wok (wkL p rec c k rs v) := by
  intro rs
  induction rs with
  | nil => intro k v hv; exact ⟨.inr (.inr rfl), hv⟩
  | cons r t ih =>
    intro k v hv
    have hs := see_len hv c k
    unfold wkL
    split
    · split
      · exact ⟨.inl rfl, hs⟩
      · split
        · exact ⟨.inr (.inl rfl), hs⟩
        · split
          · exact ⟨.inr (.inr rfl), hs⟩
          · split
            · split
              · exact ih _ _ (hr _ _ hs).2
              · exact hr _ _ hs
            · exact ih _ _ hs
    · exact ih _ _ hv
theorem wk_ok (cs : List (List Rule)) (p : Packet) : ∀ (f c : Nat) (v : List Visit), v.length ≤ 200 → Wok (wk cs p f c v)
  | 0, _, _, hv => ⟨.inr (.inr rfl), hv⟩
  | f + 1, c, _v, hv => wkL_ok p (fun d v h => wk_ok cs p f d v h) c _ _ _ hv

/-! The spec's walk. -/
theorem spec_walk {s : Ruleset} (hb : CB s.Chains) {ρ : Nat → Nat} (h : Rank s.Chains ρ) {p : Packet} (hp : PV p) : ∀ (f c : Nat) (v : List Visit), c < s.Chains.length → ρ c < f → v.length ≤ 200 → spec_l9Walk f s (c : Int) p v = some (wk s.Chains p f c v) := by
  intro f
  induction f with
  | zero => intro c v _ h; omega
  | succ f ih =>
    intro c v hc hr hvl
    have hv := hb.rv _ (ch_mem hc)
    have hl := hv.2
    unfold spec_l9Walk
    simp only [ch_idx hc, Option.getD_some]
    suffices key : ∀ (j k fuel : Nat) (v : List Visit), k + j = (ch s.Chains c).length → j < fuel → v.length ≤ 200 →
        ((loopF (spec_l9Walk_L0 s (c : Int) p (spec_l9Walk f)) fuel ((k : Int), v)).bind fun lr => lr.on (fun (x : Int × List Visit) => some ((5 : Int), x.2)) (fun r => some r)) = some (wkL p (wk s.Chains p f) c k ((ch s.Chains c).drop k) v) from
      key (ch s.Chains c).length 0 _ v (by omega) (by omega) hvl
    intro j
    induction j with
    | zero =>
      intro k fuel v hk hf hvl
      obtain ⟨g, rfl⟩ : ∃ g, fuel = g + 1 := ⟨fuel - 1, by omega⟩
      have hk' : k = (ch s.Chains c).length := by omega
      subst hk'
      unfold loopF
      have : spec_l9Walk_L0 s (c : Int) p (spec_l9Walk f) (((ch s.Chains c).length : Int), v) = some (.brk (((ch s.Chains c).length : Int), v)) := by
        unfold spec_l9Walk_L0
        simp only [ch_idx hc, Option.bind_some, lt_false (Int.le_refl _), cond_false]
      rw [this, List.drop_length]; rfl
    | succ j ihj =>
      intro k fuel v hk hf hvl
      obtain ⟨g, rfl⟩ : ∃ g, fuel = g + 1 := ⟨fuel - 1, by omega⟩
      have hkl : k < (ch s.Chains c).length := by omega
      have hm := List.getElem_mem hkl
      have hru := hv.1 _ hm
      have hsee := see_len hvl c k
      have nxt : ∀ v', v'.length ≤ 200 → spec_l9Walk_L0 s (c : Int) p (spec_l9Walk f) ((k : Int), v) = some (.nxt (((k + 1 : Nat) : Int), v')) →
          ((loopF (spec_l9Walk_L0 s (c : Int) p (spec_l9Walk f)) (g + 1) ((k : Int), v)).bind fun lr => lr.on (fun (x : Int × List Visit) => some ((5 : Int), x.2)) (fun r => some r)) = some (wkL p (wk s.Chains p f) c (k + 1) ((ch s.Chains c).drop (k + 1)) v') := fun v' hv' e => by
        unfold loopF
        rw [e]
        exact ihj (k + 1) g v' (by omega) (by omega) hv'
      have ret : ∀ r, spec_l9Walk_L0 s (c : Int) p (spec_l9Walk f) ((k : Int), v) = some (.ret r) →
          ((loopF (spec_l9Walk_L0 s (c : Int) p (spec_l9Walk f)) (g + 1) ((k : Int), v)).bind fun lr => lr.on (fun (x : Int × List Visit) => some ((5 : Int), x.2)) (fun r => some r)) = some r := fun r e => by
        unfold loopF
        rw [e]; rfl
      rw [List.drop_eq_getElem_cons hkl]
      unfold wkL
      have hbody : ∀ (T : List Visit → Option (SR (Int × List Visit) (Int × List Visit))), (bif decide ((v.length : Int) < 200) then (appF v [({ Chain := (c : Int), Place := (k : Int) } : Visit)]).bind T else T v) = T (see v c k) := fun T => by
        unfold see
        by_cases hl2 : v.length < 200
        · rw [decide_eq_true (by omega : (v.length : Int) < 200), cond_true, app_ok (by simp; omega), if_pos hl2]; rfl
        · rw [decide_eq_false (by omega : ¬ (v.length : Int) < 200), if_neg hl2]; rfl
      have hstep : spec_l9Walk_L0 s (c : Int) p (spec_l9Walk f) ((k : Int), v) = bif holdB p (ch s.Chains c)[k] then (fun z1 : List Visit =>
          bif ((ch s.Chains c)[k].Action == 1) then some (.ret ((ch s.Chains c)[k].Action, z1))
          else bif ((ch s.Chains c)[k].Action == 2) then some (.ret ((ch s.Chains c)[k].Action, z1))
          else bif ((ch s.Chains c)[k].Action == 4) then some (.ret (5, z1))
          else bif ((ch s.Chains c)[k].Action == 3) then (spec_l9Walk f s (ch s.Chains c)[k].Chain p z1).bind fun x4 => bif (x4.1 != 5) then some (.ret (x4.1, x4.2)) else some (.nxt ((W ((k : Int) + 1)), x4.2))
          else some (.nxt ((W ((k : Int) + 1)), z1))) (see v c k) else some (.nxt ((W ((k : Int) + 1)), v)) := by
        unfold spec_l9Walk_L0
        simp only [ch_idx hc, Option.bind_some, lt_true (show (k : Int) < ((ch s.Chains c).length : Int) by omega), cond_true, idx_get hkl, spec_hold hru hp]
        cases holdB p (ch s.Chains c)[k] with
        | false => simp only [cond_false]
        | true => simp only [cond_true]; exact hbody _
      rw [W_succ (by omega)] at hstep
      by_cases hh : holdB p (ch s.Chains c)[k] = true
      · rw [if_pos hh]
        rw [hh, cond_true] at hstep
        simp only at hstep
        by_cases a1 : (ch s.Chains c)[k].Action = 1
        · rw [if_pos a1]
          exact ret _ (by rw [hstep, a1]; rfl)
        rw [if_neg a1]
        rw [(by simp [a1] : ((ch s.Chains c)[k].Action == 1) = false), cond_false] at hstep
        by_cases a2 : (ch s.Chains c)[k].Action = 2
        · rw [if_pos a2]
          exact ret _ (by rw [hstep, a2]; rfl)
        rw [if_neg a2]
        rw [(by simp [a2] : ((ch s.Chains c)[k].Action == 2) = false), cond_false] at hstep
        by_cases a4 : (ch s.Chains c)[k].Action = 4
        · rw [if_pos a4]
          exact ret _ (by rw [hstep, a4]; rfl)
        rw [if_neg a4]
        rw [(by simp [a4] : ((ch s.Chains c)[k].Action == 4) = false), cond_false] at hstep
        by_cases a3 : (ch s.Chains c)[k].Action = 3
        · rw [if_pos a3]
          obtain ⟨d, hd⟩ := Int.eq_ofNat_of_zero_le (hv.chain hm).1
          have hcall : Calls s.Chains c d := called_mem.2 ⟨_, hm, a3, hd⟩
          have hrd := h.2 c d hc hcall
          rw [(by simp [a3] : ((ch s.Chains c)[k].Action == 3) = true), cond_true, hd, ih d _ hrd.1 (by omega) hsee, Option.bind_some] at hstep
          rw [hd, Int.toNat_natCast]
          by_cases h5 : (wk s.Chains p f d (see v c k)).1 = 5
          · rw [if_pos h5]
            rw [(by simp [h5] : ((wk s.Chains p f d (see v c k)).1 != 5) = false), cond_false] at hstep
            exact nxt _ (wk_ok _ _ _ _ _ hsee).2 hstep
          · rw [if_neg h5]
            rw [(by simp [h5] : ((wk s.Chains p f d (see v c k)).1 != 5) = true), cond_true] at hstep
            exact ret _ hstep
        rw [if_neg a3]
        rw [(by simp [a3] : ((ch s.Chains c)[k].Action == 3) = false), cond_false] at hstep
        exact nxt _ hsee hstep
      · rw [if_neg hh]
        rw [Bool.eq_false_iff.2 hh, cond_false] at hstep
        exact nxt _ hvl hstep

/-! The machine with a stack. -/
def Run {σ ρ : Type} (B : σ → Option (SR σ ρ)) (m : Nat) (s s' : σ) : Prop := ∀ N, loopF B (m + N) s = loopF B N s'
theorem Run.trans {σ ρ : Type} {B : σ → Option (SR σ ρ)} {m m' : Nat} {a b c : σ} (h : Run B m a b) (k : Run B m' b c) : Run B (m + m') a c := fun N => by
  rw [Nat.add_assoc, h, k]
theorem Run.one {σ ρ : Type} {B : σ → Option (SR σ ρ)} {a b : σ} (h : B a = some (.nxt b)) : Run B 1 a b := fun N => by
  rw [Nat.add_comm]
  show (B a).bind _ = _
  rw [h]; rfl
theorem Run.zero {σ ρ : Type} {B : σ → Option (SR σ ρ)} (a : σ) : Run B 0 a a := fun N => by rw [Nat.zero_add]
/-- The most rounds of a walk. -/
def cost : Nat → Nat
  | 0 => 0
  | f + 1 => 9 + 8 * cost f
/-- Where the machine stands when a walk has answered. -/
def After (stk : List Place) (r : Int × List Visit) (s : List Place × List Visit × Int) : Prop := s.2 = (r.2, r.1) ∧ (r.1 = 5 → s.1 = stk)
theorem top_set (stk : List Place) (x y : Place) : List.set (stk ++ [x]) ((stk.length : Nat) : Int).toNat y = stk ++ [y] := by
  rw [Int.toNat_natCast, List.set_append_right _ _ (Nat.le_refl _), Nat.sub_self]; rfl
theorem top_idx (stk : List Place) (x : Place) : idx (stk ++ [x]) ((stk.length : Nat) : Int) = some x := by
  rw [idx_nat, List.getElem?_append_right (Nat.le_refl _), Nat.sub_self]; rfl
theorem top_len (stk : List Place) (x : Place) (h : stk.length ≤ 100) : W (((stk ++ [x]).length : Int) - 1) = ((stk.length : Nat) : Int) := by
  rw [List.length_append, List.length_singleton, W_of (by omega) (by omega)]; omega
theorem top_take (stk : List Place) (x : Place) : takeF (stk ++ [x]) ((stk.length : Nat) : Int) = some stk := by
  unfold takeF
  rw [if_pos ⟨by omega, by rw [List.length_append, List.length_singleton]; omega⟩, Int.toNat_natCast, List.take_left]
theorem machine {s : Ruleset} (hb : CB s.Chains) {ρ : Nat → Nat} (h : Rank s.Chains ρ) (p : Packet) : ∀ (f c : Nat), c < s.Chains.length → ρ c < f → ∀ (stk : List Place) (v : List Visit), stk.length + f ≤ 50 → v.length ≤ 200 →
    ∃ m t, m ≤ cost f ∧ Run (impl_walkThrough_L0 s p) m (stk ++ [⟨(c : Int), 0⟩], v, 5) t ∧ After stk (wk s.Chains p f c v) t := by
  intro f
  induction f with
  | zero => intro c _ h; omega
  | succ f ih =>
    intro c hc hr stk v hst hvl
    have hv := hb.rv _ (ch_mem hc)
    have hl := hv.2
    have hcost : cost (f + 1) = 9 + 8 * cost f := rfl
    suffices key : ∀ (j k : Nat) (v : List Visit), k + j = (ch s.Chains c).length → v.length ≤ 200 →
        ∃ m t, m ≤ j * (1 + cost f) + 1 ∧ Run (impl_walkThrough_L0 s p) m (stk ++ [⟨(c : Int), (k : Int)⟩], v, 5) t ∧ After stk (wkL p (wk s.Chains p f) c k ((ch s.Chains c).drop k) v) t by
      obtain ⟨m, t, hm, hrun, haf⟩ := key (ch s.Chains c).length 0 v (by omega) hvl
      refine ⟨m, t, ?_, hrun, haf⟩
      have : (ch s.Chains c).length * (1 + cost f) ≤ 8 * (1 + cost f) := Nat.mul_le_mul_right _ (by omega)
      omega
    intro j
    induction j with
    | zero =>
      intro k v hk hvl
      have hk' : k = (ch s.Chains c).length := by omega
      subst hk'
      refine ⟨1, (stk, v, 5), by omega, Run.one ?_, ?_⟩
      · unfold impl_walkThrough_L0
        simp only [top_len stk _ (show stk.length ≤ 100 by omega), top_idx, Option.bind_some, ch_idx hc]
        rw [lt_true (show (0 : Int) < ((stk ++ [({ chain := (c : Int), next := ((ch s.Chains c).length : Int) } : Place)]).length : Int) by rw [List.length_append, List.length_singleton]; omega)]
        simp only [cond_true, beq_self_eq_true, impl_walk_leave, top_len stk _ (show stk.length ≤ 100 by omega), top_take, Option.bind_some]
      · rw [List.drop_length]; exact ⟨rfl, fun _ => rfl⟩
    | succ j ihj =>
      intro k v hk hvl
      have hkl : k < (ch s.Chains c).length := by omega
      have hm := List.getElem_mem hkl
      have hru := hv.1 _ hm
      have hsee := see_len hvl c k
      have hne : ((k : Int) == ((ch s.Chains c).length : Int)) = false := by simp; omega
      have hpos : decide ((0 : Int) < ((stk ++ [({ chain := (c : Int), next := (k : Int) } : Place)]).length : Int)) = true := lt_true (by rw [List.length_append, List.length_singleton]; omega)
      rw [List.drop_eq_getElem_cons hkl]
      unfold wkL
      have hbody : ∀ (T : List Visit → Option (SR (List Place × List Visit × Int) Walk)), (bif decide ((v.length : Int) < 200) then (appF v [({ Chain := (c : Int), Place := (k : Int) } : Visit)]).bind T else T v) = T (see v c k) := fun T => by
        unfold see
        by_cases hl2 : v.length < 200
        · rw [decide_eq_true (by omega : (v.length : Int) < 200), cond_true, app_ok (by simp; omega), if_pos hl2]; rfl
        · rw [decide_eq_false (by omega : ¬ (v.length : Int) < 200), if_neg hl2]; rfl
      have hstep : impl_walkThrough_L0 s p (stk ++ [⟨(c : Int), (k : Int)⟩], v, 5) = bif holdB p (ch s.Chains c)[k] then (fun z1 : List Visit =>
          (impl_actionOf (ch s.Chains c)[k]).bind fun x7 => (invoke_walk x7 (stk ++ [({ chain := (c : Int), next := ((k + 1 : Nat) : Int) } : Place)]) z1 5).bind fun x8 => some (.nxt (x8.1, x8.2.1, x8.2.2))) (see v c k)
          else some (.nxt (stk ++ [({ chain := (c : Int), next := ((k + 1 : Nat) : Int) } : Place)], v, 5)) := by
        unfold impl_walkThrough_L0
        simp only [hpos, cond_true, beq_self_eq_true, top_len stk _ (show stk.length ≤ 100 by omega), top_idx, Option.bind_some, ch_idx hc, hne, cond_false, idx_get hkl, impl_hold hru, W_succ (show k < 9223372036854775807 by omega), top_set]
        cases holdB p (ch s.Chains c)[k] with
        | false => simp only [cond_false]
        | true => simp only [cond_true]; exact hbody _
      have nxt : ∀ v', v'.length ≤ 200 → ∀ m0, m0 ≤ 1 + cost f → Run (impl_walkThrough_L0 s p) m0 (stk ++ [⟨(c : Int), (k : Int)⟩], v, 5) (stk ++ [⟨(c : Int), ((k + 1 : Nat) : Int)⟩], v', 5) →
          ∃ m t, m ≤ (j + 1) * (1 + cost f) + 1 ∧ Run (impl_walkThrough_L0 s p) m (stk ++ [⟨(c : Int), (k : Int)⟩], v, 5) t ∧ After stk (wkL p (wk s.Chains p f) c (k + 1) ((ch s.Chains c).drop (k + 1)) v') t := fun v' hv' m0 hm0 e => by
        obtain ⟨m, t, hm, hrun, haf⟩ := ihj (k + 1) v' (by omega) hv'
        refine ⟨m0 + m, t, ?_, e.trans hrun, haf⟩
        rw [Nat.succ_mul]; omega
      have fin : ∀ t r, impl_walkThrough_L0 s p (stk ++ [⟨(c : Int), (k : Int)⟩], v, 5) = some (.nxt t) → After stk r t →
          ∃ m t, m ≤ (j + 1) * (1 + cost f) + 1 ∧ Run (impl_walkThrough_L0 s p) m (stk ++ [⟨(c : Int), (k : Int)⟩], v, 5) t ∧ After stk r t := fun t r e ha => ⟨1, t, by omega, Run.one e, ha⟩
      by_cases hh : holdB p (ch s.Chains c)[k] = true
      · rw [if_pos hh]
        rw [hh, cond_true] at hstep
        simp only at hstep
        unfold impl_actionOf at hstep
        by_cases a1 : (ch s.Chains c)[k].Action = 1
        · rw [if_pos a1]
          exact fin (stk ++ [⟨(c : Int), ((k + 1 : Nat) : Int)⟩], see v c k, 1) (1, see v c k) (by rw [hstep, a1]; rfl) ⟨rfl, fun h => by simp at h⟩
        rw [if_neg a1]
        rw [(by simp [a1] : ((ch s.Chains c)[k].Action == 1) = false), cond_false] at hstep
        by_cases a2 : (ch s.Chains c)[k].Action = 2
        · rw [if_pos a2]
          exact fin (stk ++ [⟨(c : Int), ((k + 1 : Nat) : Int)⟩], see v c k, 2) (2, see v c k) (by rw [hstep, a2]; rfl) ⟨rfl, fun h => by simp at h⟩
        rw [if_neg a2]
        rw [(by simp [a2] : ((ch s.Chains c)[k].Action == 2) = false), cond_false] at hstep
        by_cases a4 : (ch s.Chains c)[k].Action = 4
        · rw [if_pos a4]
          refine fin (stk, see v c k, 5) _ ?_ ⟨rfl, fun _ => rfl⟩
          rw [hstep, a4]
          simp only [show ((4 : Int) == 3) = false from rfl, cond_false, beq_self_eq_true, cond_true, Option.bind_some, invoke_walk, impl_returning_walk, impl_walk_leave, top_len stk _ (show stk.length ≤ 100 by omega), top_take]
        rw [if_neg a4]
        by_cases a3 : (ch s.Chains c)[k].Action = 3
        · rw [if_pos a3]
          obtain ⟨d, hd⟩ := Int.eq_ofNat_of_zero_le (hv.chain hm).1
          have hcall : Calls s.Chains c d := called_mem.2 ⟨_, hm, a3, hd⟩
          have hrd := h.2 c d hc hcall
          obtain ⟨m, t, hm1, hrun, haf⟩ := ih d hrd.1 (by omega) (stk ++ [⟨(c : Int), ((k + 1 : Nat) : Int)⟩]) (see v c k) (by simp; omega) hsee
          have h1 : impl_walkThrough_L0 s p (stk ++ [⟨(c : Int), (k : Int)⟩], v, 5) = some (.nxt ((stk ++ [⟨(c : Int), ((k + 1 : Nat) : Int)⟩]) ++ [⟨(d : Int), 0⟩], see v c k, 5)) := by
            rw [hstep, a3, hd]
            simp only [beq_self_eq_true, cond_true, Option.bind_some, invoke_walk, impl_calling_walk]
            rw [app_ok (by simp; omega)]; rfl
          have hrun' := (Run.one h1).trans hrun
          obtain ⟨t1, t2⟩ := t
          obtain ⟨ht, ht5⟩ := haf
          simp only at ht ht5
          subst ht
          rw [hd, Int.toNat_natCast]
          by_cases h5 : (wk s.Chains p f d (see v c k)).1 = 5
          · rw [if_pos h5]
            rw [ht5 h5, h5] at hrun'
            exact nxt _ (wk_ok _ _ _ _ _ hsee).2 _ (by omega) hrun'
          · rw [if_neg h5]
            refine ⟨1 + m, _, ?_, hrun', rfl, fun h => absurd h h5⟩
            have : 1 * (1 + cost f) ≤ (j + 1) * (1 + cost f) := Nat.mul_le_mul_right _ (by omega)
            omega
        rw [if_neg a3]
        rw [(by simp [a3] : ((ch s.Chains c)[k].Action == 3) = false), cond_false, (by simp [a4] : ((ch s.Chains c)[k].Action == 4) = false), cond_false] at hstep
        exact nxt _ hsee 1 (by omega) (Run.one hstep)
      · rw [if_neg hh]
        rw [Bool.eq_false_iff.2 hh, cond_false] at hstep
        exact nxt _ hvl 1 (by omega) (Run.one hstep)
theorem cost5 : cost 5 = 42129 := rfl
theorem cost_mono : ∀ f, cost f ≤ cost (f + 1)
  | 0 => by decide
  | f + 1 => by
    have := cost_mono f
    show 9 + 8 * cost f ≤ 9 + 8 * cost (f + 1)
    omega
theorem cost_le : ∀ k f, cost f ≤ cost (f + k)
  | 0, _ => Nat.le_refl _
  | k + 1, f => Nat.le_trans (cost_le k f) (cost_mono _)
/-- A walk does not need more than its rank. -/
theorem wk_same {cs : List (List Rule)} (hb : CB cs) {ρ : Nat → Nat} (h : Rank cs ρ) (p : Packet) : ∀ (f f' c : Nat) (v : List Visit), c < cs.length → ρ c < f → ρ c < f' → wk cs p f c v = wk cs p f' c v := by
  intro f
  induction f with
  | zero => intro f' c v _ h; omega
  | succ f ih =>
    intro f' c v hc h1 h2
    obtain ⟨g, rfl⟩ : ∃ g, f' = g + 1 := ⟨f' - 1, by omega⟩
    unfold wk
    have hv := hb.rv _ (ch_mem hc)
    suffices key : ∀ (rs : List Rule) (k : Nat) (v : List Visit), (∀ r ∈ rs, r ∈ ch cs c) → wkL p (wk cs p f) c k rs v = wkL p (wk cs p g) c k rs v from key _ 0 v fun _ h => h
    intro rs
    induction rs with
    | nil => intro k v _; rfl
    | cons r t iht =>
      intro k v hin
      have ht := fun k v => iht k v fun r hr => hin r (List.mem_cons_of_mem _ hr)
      unfold wkL
      by_cases a3 : r.Action = 3
      · have hm := hin r (List.mem_cons_self ..)
        have h0 := hv.chain hm
        have hrd := h.2 c r.Chain.toNat hc (called_mem.2 ⟨r, hm, a3, by omega⟩)
        rw [ih g r.Chain.toNat _ hrd.1 (by omega) (by omega)]
        simp only [ht]
      · simp only [if_neg a3, ht]
/-- A whole walk. -/
def judge (s : Ruleset) (p : Packet) : Int × List Visit := wk s.Chains p 5 0 []
theorem judge_ok (s : Ruleset) (p : Packet) : Wok (judge s p) := wk_ok _ _ _ _ _ (by simp)
theorem spec_judge {s : Ruleset} (h : RSV s) {p : Packet} (hp : PV p) : spec_l9Walk 10 s 0 p [] = some (judge s p) := by
  obtain ⟨hb, he⟩ := h
  obtain ⟨ρ, hρ⟩ := ends_rank hb he
  have h1 := hb.n1
  have h5 := hb.n5
  have hr := hρ.1 0 h1
  have := spec_walk hb hρ hp 10 0 [] h1 (by omega) (by simp)
  rw [Int.natCast_zero] at this
  rw [this]
  unfold judge
  rw [wk_same hb hρ p 10 5 0 [] h1 (by omega) (by omega)]
theorem impl_judge {s : Ruleset} (h : RSV s) (p : Packet) : ∃ stk, impl_walkThrough s p = some ⟨stk, (judge s p).2, (judge s p).1⟩ := by
  obtain ⟨hb, he⟩ := h
  obtain ⟨ρ, hρ⟩ := ends_rank hb he
  have h1 := hb.n1
  have h5 := hb.n5
  have hr := hρ.1 0 h1
  obtain ⟨m, ⟨t1, t2⟩, hm, hrun, ht, hs⟩ := machine hb hρ p 5 0 h1 (by omega) [] [] (by simp) (by simp)
  simp only at ht hs
  subst ht
  refine ⟨t1, ?_⟩
  rw [cost5] at hm
  unfold impl_walkThrough
  obtain ⟨N, hN⟩ : ∃ N, 1000000 = m + (N + 1) := ⟨1000000 - m - 1, by omega⟩
  have hrun := hrun (N + 1)
  rw [← hN] at hrun
  rw [List.nil_append, Int.natCast_zero] at hrun
  rw [hrun]
  have hbr : impl_walkThrough_L0 s p (t1, (judge s p).2, (judge s p).1) = some (.brk (t1, (judge s p).2, (judge s p).1)) := by
    unfold impl_walkThrough_L0
    by_cases h5 : (judge s p).1 = 5
    · have : t1 = [] := hs h5
      subst this; rfl
    · simp only [(by simp [h5] : ((judge s p).1 == 5) = false), cond_false]
      cases decide ((0 : Int) < (t1.length : Int)) <;> rfl
  show ((impl_walkThrough_L0 s p (t1, (judge s p).2, (judge s p).1)).bind _).bind _ = _
  rw [hbr]; rfl

/-! Judging. -/
def judgeB (s : Ruleset) (p : Packet) : Bool := if (judge s p).1 = 1 then true else if (judge s p).1 = 2 then false else s.Accept
theorem impl_jv {s : Ruleset} (h : RSV s) (p : Packet) : impl_judgeValid s p = some (judgeB s p) := by
  obtain ⟨stk, e⟩ := impl_judge h p
  unfold impl_judgeValid judgeB
  rw [e, Option.bind_some]
  simp only
  rcases (judge_ok s p).1 with h | h | h <;> rw [h] <;> rfl
theorem spec_jv {s : Ruleset} (hs : OkRs s) (p : Packet) : ∃ r, spec_Judge s p = some r ∧ (RSV s → PV p → r = judgeB s p) ∧ (¬ (RSV s ∧ PV p) → r = false) := by
  obtain ⟨v, e, hv⟩ := spec_ruleset hs
  obtain ⟨q, e2, hq⟩ := spec_packet p
  unfold spec_Judge
  rw [e, Option.bind_some]
  cases v with
  | false => exact ⟨false, rfl, fun h => by simpa using hv.2 h, fun _ => rfl⟩
  | true =>
    rw [cond_true, e2, Option.bind_some]
    cases q with
    | false => exact ⟨false, rfl, fun _ h => by simpa using hq.2 h, fun _ => rfl⟩
    | true =>
      rw [cond_true, spec_judge (hv.1 rfl) (hq.1 rfl), Option.bind_some]
      refine ⟨judgeB s p, ?_, fun _ _ => rfl, fun h => absurd ⟨hv.1 rfl, hq.1 rfl⟩ h⟩
      unfold judgeB
      rcases (judge_ok s p).1 with h | h | h <;> rw [h] <;> simp
theorem judged_is {s : Ruleset} (hs : OkRs s) (p : Packet) : ∃ r, spec_JudgedBy s p = some r ∧ impl_JudgedBy s p = some r ∧ (RSV s → PV p → r = (judge s p).1) ∧ (¬ (RSV s ∧ PV p) → r = 0) := by
  obtain ⟨v, e1, e2, hv⟩ := (spec_ruleset hs).same (impl_ruleset hs)
  obtain ⟨q, e3, e4, hq⟩ := (spec_packet p).same (impl_packet p)
  unfold spec_JudgedBy impl_JudgedBy
  rw [e1, e2, Option.bind_some, Option.bind_some, e3, e4]
  cases v with
  | false => exact ⟨0, rfl, rfl, fun h => by simpa using hv.2 h, fun _ => rfl⟩
  | true =>
    cases q with
    | false => exact ⟨0, rfl, rfl, fun _ h => by simpa using hq.2 h, fun _ => rfl⟩
    | true =>
      obtain ⟨stk, e5⟩ := impl_judge (hv.1 rfl) p
      refine ⟨(judge s p).1, ?_, ?_, fun _ _ => rfl, fun h => absurd ⟨hv.1 rfl, hq.1 rfl⟩ h⟩
      · simp only [cond_true, Option.bind_some, spec_judge (hv.1 rfl) (hq.1 rfl)]
      · simp only [cond_true, Option.bind_some, e5]
theorem judge_is {s : Ruleset} (hs : OkRs s) (p : Packet) : ∃ r, spec_Judge s p = some r ∧ impl_Judge s p = some r ∧ (RSV s → PV p → r = judgeB s p) ∧ (¬ (RSV s ∧ PV p) → r = false) := by
  obtain ⟨r, e, h1, h2⟩ := spec_jv hs p
  refine ⟨r, e, ?_, h1, h2⟩
  obtain ⟨v, e1, hv⟩ := impl_ruleset hs
  obtain ⟨q, e2, hq⟩ := impl_packet p
  unfold impl_Judge
  rw [e1, Option.bind_some]
  cases v with
  | false => rw [cond_false, h2 fun h => by simpa using hv.2 h.1]
  | true =>
    rw [cond_true, e2, Option.bind_some]
    cases q with
    | false => rw [cond_false, h2 fun h => by simpa using hq.2 h.2]
    | true => rw [cond_true, impl_jv (hv.1 rfl), Option.bind_some, h1 (hv.1 rfl) (hq.1 rfl)]
theorem plain_FnExactJudgedBy (a : Ruleset) (b : Packet) (ga : G_Ruleset a) (_gb : G_Packet b) : laws_FnExactJudgedBy a b = some true := by
  have ha := rs_of_G ga
  unfold laws_FnExactJudgedBy
  rw [sz_Rs (by decide) (by decide) ha, Option.bind_some]
  by_cases hs : wRs a ≤ 1048576
  · obtain ⟨r, e1, e2, _⟩ := judged_is ha b
    rw [left_pos hs, to_Rs (sm_Rs hs)]
    simp only [cond_false, Option.bind_some, to_Packet, e1, e2, eq_Rs _ ha]
    simp
  · rw [left_neg hs]; rfl
theorem plain_FnExactJudge (a : Ruleset) (b : Packet) (ga : G_Ruleset a) (_gb : G_Packet b) : laws_FnExactJudge a b = some true := by
  have ha := rs_of_G ga
  unfold laws_FnExactJudge
  rw [sz_Rs (by decide) (by decide) ha, Option.bind_some]
  by_cases hs : wRs a ≤ 1048576
  · obtain ⟨r, e1, e2, _⟩ := judge_is ha b
    rw [left_pos hs, to_Rs (sm_Rs hs)]
    simp only [cond_false, Option.bind_some, to_Packet, e1, e2, eq_Rs _ ha]
    simp
  · rw [left_neg hs]; rfl
end Go.PF.F
