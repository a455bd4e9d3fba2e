/- Plain laws: depths of calls; exact laws of rulesets. -/
import Derived.Test.YtbnndochnkkllaaDoorPlQ
namespace Go.PF.F
open Go Go.PF

theorem foldl_max_le (xs : List Nat) : ∀ a b : Nat, xs.foldl max a ≤ b ↔ a ≤ b ∧ ∀ x ∈ xs, x ≤ b := by
  induction xs with
  | nil => intro a b; simp
  | cons x t ih =>
    intro a b
    rw [List.foldl_cons, ih, List.forall_mem_cons, Nat.max_le, and_assoc]
def depF (cs : List (List Rule)) : Nat → Nat → Nat
  | 0, _ => 0
  | f + 1, c => ((callN (ch cs c)).map fun d => 1 + depF cs f d).foldl max 0
theorem depF_iff (cs : List (List Rule)) (f c b : Nat) : depF cs (f + 1) c ≤ b ↔ ∀ d ∈ callN (ch cs c), 1 + depF cs f d ≤ b := by
  show ((callN (ch cs c)).map fun d => 1 + depF cs f d).foldl max 0 ≤ b ↔ _
  rw [foldl_max_le]
  simp
theorem depF_le (cs : List (List Rule)) : ∀ f c, depF cs f c ≤ f
  | 0, _ => Nat.le_refl _
  | f + 1, c => (depF_iff cs f c _).2 fun d _ => by have := depF_le cs f d; omega
theorem depF_same {cs : List (List Rule)} {ρ : Nat → Nat} (h : Rank cs ρ) : ∀ f f' c, c < cs.length → ρ c < f → ρ c < f' → depF cs f c = depF cs f' c := by
  intro f
  induction f with
  | zero => intro f' c _ h; omega
  | succ f ih =>
    intro f' c hc h1 h2
    obtain ⟨g, rfl⟩ : ∃ g, f' = g + 1 := ⟨f' - 1, by omega⟩
    unfold depF
    rw [List.map_congr_left (g := fun d => 1 + depF cs g d) fun d hd => ?_]
    have := h.2 c d hc (callN_mem.1 hd).2
    rw [ih g d this.1 (by omega) (by omega)]
/-- The depth of chain c. -/
def dep (cs : List (List Rule)) (c : Nat) : Nat := depF cs cs.length c
theorem dep_iff {cs : List (List Rule)} (hb : CB cs) {ρ : Nat → Nat} (h : Rank cs ρ) {c : Nat} (hc : c < cs.length) (b : Nat) : dep cs c ≤ b ↔ ∀ d, Calls cs c d → 1 + dep cs d ≤ b := by
  have h5 := hb.n5
  have hr := h.1 c hc
  unfold dep
  obtain ⟨m, hm⟩ : ∃ m, cs.length = m + 1 := ⟨cs.length - 1, by omega⟩
  have e : depF cs cs.length c ≤ b ↔ ∀ d ∈ callN (ch cs c), 1 + depF cs m d ≤ b := by
    rw [hm]; exact depF_iff cs m c b
  rw [e]
  have key : ∀ d, Calls cs c d → depF cs m d = depF cs cs.length d := fun d hd => by
    have := h.2 c d hc hd
    exact depF_same h m cs.length d this.1 (by omega) (by omega)
  constructor
  · intro hh d hd
    rw [← key d hd]
    exact hh d (callN_mem.2 ⟨by have := hb.callee hc hd; omega, hd⟩)
  · intro hh d hd
    have hd := (callN_mem.1 hd).2
    rw [key d hd]; exact hh d hd
theorem imax_nat (a b : Nat) : imax (a : Int) (b : Int) = ((max a b : Nat) : Int) := by unfold imax; split <;> omega
theorem W_one_add {x : Nat} (h : x ≤ 1000) : W (1 + (x : Int)) = ((1 + x : Nat) : Int) := by rw [W_of (by omega) (by omega)]; omega
theorem impl_depth {cs : List (List Rule)} (hb : CB cs) {ρ : Nat → Nat} (h : Rank cs ρ) : ∀ f c, c < cs.length → ρ c < f → f ≤ 10 → impl_depthOf f cs (c : Int) = some ((depF cs f c : Nat) : Int) := by
  intro f
  induction f with
  | zero => intro c _ h; omega
  | succ f ih =>
    intro c hc h1 h2
    have hcl := callN_len (ch cs c)
    unfold impl_depthOf
    simp only [ch_idx hc, Option.bind_some, calls_in (hb.rv _ (ch_mem hc)), castL_len]
    have e : loopF (impl_depthOf_L0 cs (impl_depthOf f) (castL (callN (ch cs c)))) ((((callN (ch cs c)).length : Int)) - 0).toNat.succ (0, 0) = some (.brk (((depF cs (f + 1) c : Nat) : Int), ((callN (ch cs c)).length : Int))) :=
      loop_brk (body := impl_depthOf_L0 cs (impl_depthOf f) (castL (callN (ch cs c)))) (callN (ch cs c)).length (fun k : Nat => ((((((callN (ch cs c)).take k).map fun d => 1 + depF cs f d).foldl max 0 : Nat) : Int), (k : Int))) _ (fun k hk => by
        have hcall : Calls cs c (callN (ch cs c))[k] := (callN_mem.1 (List.getElem_mem hk)).2
        have hd := h.2 c _ hc hcall
        unfold impl_depthOf_L0
        simp only [castL_len, lt_true (show (k : Int) < ((callN (ch cs c)).length : Int) by omega), cond_true, castL_idx hk, Option.bind_some, ih _ hd.1 (by omega) (by omega), W_succ (show k < 9223372036854775807 by omega)]
        rw [W_one_add (by have := depF_le cs f (callN (ch cs c))[k]; omega), imax_nat, take_snoc (List.getElem?_eq_getElem hk), List.map_append, List.foldl_append]; rfl)
        (by
          unfold impl_depthOf_L0
          simp only [castL_len, lt_false (Int.le_refl _), cond_false, List.take_length]; rfl) (by omega)
    rw [e]; rfl
/-- The depths that are known when the chains o are done. -/
def depL (cs : List (List Rule)) (o : List Nat) : List Int := (List.range cs.length).map fun x => if x ∈ o then ((dep cs x : Nat) : Int) else 0
theorem depL_idx {cs : List (List Rule)} (o : List Nat) {c : Nat} (h : c < cs.length) : idx (depL cs o) (c : Int) = some (if c ∈ o then ((dep cs c : Nat) : Int) else 0) := by
  rw [idx_nat]; unfold depL
  rw [List.getElem?_map, List.getElem?_range h]; rfl
theorem depL_set {cs : List (List Rule)} (o : List Nat) {c : Nat} (h : c < cs.length) : (depL cs o).set c ((dep cs c : Nat) : Int) = depL cs (o ++ [c]) := by
  refine List.ext_getElem? fun j => ?_
  unfold depL
  rw [List.getElem?_set, List.getElem?_map, List.getElem?_map, List.length_map, List.length_range]
  by_cases hj : j < cs.length
  · rw [List.getElem?_range hj]
    by_cases e : c = j
    · subst e; simp [h]
    · rw [if_neg e]
      have e' : j ≠ c := fun x => e x.symm
      simp [e']
  · rw [List.getElem?_eq_none (by simpa using hj)]
    rw [if_neg (by omega)]; rfl
def mxR (cs : List (List Rule)) (rs : List Rule) : Nat := ((rs.filter fun r => r.Action == 3).map fun r => 1 + dep cs r.Chain.toNat).foldl max 0
theorem mxR_dep {cs : List (List Rule)} (hb : CB cs) {ρ : Nat → Nat} (h : Rank cs ρ) {c : Nat} (hc : c < cs.length) : mxR cs (ch cs c) = dep cs c := by
  have key : ∀ b, mxR cs (ch cs c) ≤ b ↔ dep cs c ≤ b := fun b => by
    unfold mxR
    rw [foldl_max_le, dep_iff hb h hc]
    constructor
    · intro ⟨_, hh⟩ d hd
      obtain ⟨r, hr, ha, hcd⟩ := called_mem.1 hd
      have := hh _ (List.mem_map.2 ⟨r, List.mem_filter.2 ⟨hr, by simp [ha]⟩, rfl⟩)
      rwa [hcd, Int.toNat_natCast] at this
    · intro hh
      refine ⟨Nat.zero_le _, fun x hx => ?_⟩
      obtain ⟨r, hr, rfl⟩ := List.mem_map.1 hx
      obtain ⟨hr, ha⟩ := List.mem_filter.1 hr
      have h0 := (hb.rv _ (ch_mem hc)).chain hr
      exact hh _ (called_mem.2 ⟨r, hr, by simpa using ha, by omega⟩)
  exact Nat.le_antisymm ((key _).2 (Nat.le_refl _)) ((key _).1 (Nat.le_refl _))
theorem set_set {α : Type} (xs : List α) (i : Nat) (a b : α) : (xs.set i a).set i b = xs.set i b := by simp
theorem depth_inner {s : Ruleset} (hb : CB s.Chains) {ρ : Nat → Nat} (h : Rank s.Chains ρ) {c : Nat} (hc : c < s.Chains.length) {o : List Nat} (hn : c ∉ o) (hin : ∀ d, Calls s.Chains c d → d ∈ o) :
    loopF (spec_CallDepth_L1 s (c : Int)) ((((ch s.Chains c).length : Int)) - 0).toNat.succ (0, depL s.Chains o) = some (.brk (((ch s.Chains c).length : Int), depL s.Chains (o ++ [c]))) := by
  have hv := hb.rv _ (ch_mem hc)
  have hl := hv.2
  have h5 := hb.n5
  have hlen : (depL s.Chains o).length = s.Chains.length := by simp [depL]
  have e0 : depL s.Chains o = (depL s.Chains o).set c ((mxR s.Chains ((ch s.Chains c).take 0) : Nat) : Int) := by
    refine Eq.symm (List.ext_getElem? fun j => ?_)
    rw [List.getElem?_set, hlen]
    by_cases e : c = j
    · subst e
      rw [if_pos rfl, if_pos hc]
      have := depL_idx o hc
      rw [idx_nat, if_neg hn] at this
      rw [this]; rfl
    · rw [if_neg e]
  refine loop_brk0 (body := spec_CallDepth_L1 s (c : Int)) (ch s.Chains c).length (fun k : Nat => ((k : Int), (depL s.Chains o).set c ((mxR s.Chains ((ch s.Chains c).take k) : Nat) : Int))) (congrArg (Prod.mk (0 : Int)) e0) (fun k hk => ?_) ?_ (by omega)
  · have hm := List.getElem_mem hk
    have hr := hv.chain hm
    obtain ⟨d, hd⟩ := Int.eq_ofNat_of_zero_le hr.1
    have hlt := hb.lt _ (ch_mem hc) _ hm
    unfold spec_CallDepth_L1
    simp only [ch_idx hc, Option.bind_some, lt_true (show (k : Int) < ((ch s.Chains c).length : Int) by omega), cond_true, idx_get hk, W_succ (show k < 9223372036854775807 by omega)]
    rw [take_snoc (List.getElem?_eq_getElem hk)]
    by_cases ha : (ch s.Chains c)[k].Action = 3
    · have hcall : Calls s.Chains c d := called_mem.2 ⟨_, hm, ha, hd⟩
      have hdc := (h.2 c d hc hcall)
      have hne : c ≠ d := fun e => by subst e; omega
      rw [(by simp [ha] : ((ch s.Chains c)[k].Action == 3) = true), cond_true, hd, idx_nat, List.getElem?_set, if_pos rfl, hlen, if_pos hc, Option.bind_some, idx_nat, List.getElem?_set, if_neg hne]
      have := depL_idx o hdc.1
      rw [idx_nat, if_pos (hin d hcall)] at this
      rw [this, Option.bind_some, W_one_add (by have := depF_le s.Chains s.Chains.length d; unfold dep; omega), imax_nat, Int.toNat_natCast, set_set]
      unfold mxR
      rw [List.filter_append, List.map_append, List.foldl_append]
      simp [ha, hd]
    · rw [(by simp [ha] : ((ch s.Chains c)[k].Action == 3) = false), cond_false]
      unfold mxR
      rw [List.filter_append]
      simp [ha]
  · unfold spec_CallDepth_L1
    simp only [ch_idx hc, Option.bind_some, lt_false (Int.le_refl _), cond_false, List.take_length]
    rw [mxR_dep hb h hc, depL_set o hc]
theorem depth_is {s : Ruleset} (hs : OkRs s) (a : Int) : ∃ r, spec_CallDepth s a = some r ∧ impl_CallDepth s a = some r ∧ (RSV s → 0 ≤ a → a < s.Chains.length → r = ((dep s.Chains a.toNat : Nat) : Int)) := by
  obtain ⟨v, e1, e2, hv⟩ := (spec_ruleset hs).same (impl_ruleset hs)
  unfold spec_CallDepth impl_CallDepth
  rw [e1, e2]
  cases v with
  | false => exact ⟨-1, rfl, rfl, fun h => absurd (hv.2 h) (by simp)⟩
  | true =>
    obtain ⟨hb, he⟩ := hv.1 rfl
    have h1 := hb.n1
    have h5 := hb.n5
    obtain ⟨ρ, hρ⟩ := ends_rank hb he
    simp only [Option.bind_some, cond_true, in_dec]
    rw [W_of (by omega) (by omega)]
    by_cases h0 : a < 0
    · rw [decide_eq_false (by omega : ¬ (0 ≤ a ∧ a ≤ (s.Chains.length : Int) - 1)), decide_eq_true h0]
      exact ⟨-1, rfl, rfl, fun _ h => by omega⟩
    by_cases hn : (s.Chains.length : Int) ≤ a
    · rw [decide_eq_false (by omega : ¬ (0 ≤ a ∧ a ≤ (s.Chains.length : Int) - 1)), decide_eq_false h0, decide_eq_true hn]
      exact ⟨-1, rfl, rfl, fun _ _ h => by omega⟩
    rw [decide_eq_true (by omega : (0 ≤ a ∧ a ≤ (s.Chains.length : Int) - 1)), decide_eq_false h0, decide_eq_false hn]
    obtain ⟨c, rfl⟩ := Int.eq_ofNat_of_zero_le (by omega : 0 ≤ a)
    have hc : c < s.Chains.length := by omega
    have hr := hρ.1 c hc
    have ht : Topo s.Chains (orderO s.Chains) := Topo.rounds _ _
    have hfull := (order_full hb).2 he
    refine ⟨((dep s.Chains c : Nat) : Int), ?_, ?_, fun _ _ _ => rfl⟩
    · rw [make_len (by omega), show List.replicate s.Chains.length (0 : Int) = depL s.Chains [] by simp [depL, List.map_const']]
      simp only [cond_true, Option.bind_some, spec_order hb, castL_len]
      have e : loopF (spec_CallDepth_L0 s (castL (orderO s.Chains))) ((((orderO s.Chains).length : Int)) - 0).toNat.succ (0, depL s.Chains []) = some (.brk (((orderO s.Chains).length : Int), depL s.Chains (orderO s.Chains))) :=
        loop_brk (body := spec_CallDepth_L0 s (castL (orderO s.Chains))) (orderO s.Chains).length (fun k : Nat => ((k : Int), depL s.Chains ((orderO s.Chains).take k))) _ (fun k hk => by
          have hh := ht k _ (List.getElem?_eq_getElem hk)
          unfold spec_CallDepth_L0
          simp only [castL_len, lt_true (show (k : Int) < ((orderO s.Chains).length : Int) by omega), cond_true, castL_idx hk, Option.bind_some, ch_idx hh.1, Option.getD_some, W_succ (show k < 9223372036854775807 by omega)]
          rw [depth_inner hb hρ hh.1 hh.2.2 ((hb.rdy hh.1).1 hh.2.1), take_snoc (List.getElem?_eq_getElem hk)]; rfl)
          (by
            unfold spec_CallDepth_L0
            simp only [castL_len, lt_false (Int.le_refl _), cond_false, List.take_length]) (by omega)
      rw [e]
      simp only [Option.bind_some, LR.on]
      rw [depL_idx _ hc, if_pos (ht.full.1 hfull c hc)]; rfl
    · rw [cond_false, cond_false, impl_depth hb hρ 10 c hc (by omega) (by omega), Option.bind_some]
      unfold dep
      rw [depF_same hρ 10 s.Chains.length c hc (by omega) (by omega)]

/-! Rulesets as arguments. -/
def wRuleSS (xs : List (List Rule)) : Nat := wtL wRuleS xs
def wRs (s : Ruleset) : Nat := wRuleSS s.Chains
theorem sz_Rs {l : Int} (h0 : 0 ≤ l) (h1 : l ≤ 1048576) {s : Ruleset} (h : OkRs s) : laws_szRuleset s l = some (leftOf l (wRs s)) := by
  unfold laws_szRuleset
  rw [show laws_szRuleSS s.Chains l = some (leftOf l (wRs s)) from sz_list (body := laws_szRuleSS_L0 s.Chains) s.Chains l h0 h1 h.1 (fun x hx _ a b => sz_RuleS a b (h.2 x hx).1 (h.2 x hx).2) (fun _ _ => rfl)]
  exact sz_wrap
theorem rs_of_G {s : Ruleset} (h : G_Ruleset s) : OkRs s := ⟨h.1.1, fun rs hrs => ⟨(h.1.2 rs hrs).1, fun r hr => ((h.1.2 rs hrs).2 r hr).1.1⟩⟩
/-- A ruleset that has been counted. -/
def SmRs (s : Ruleset) : Prop := s.Chains.length ≤ 1048576 ∧ ∀ rs ∈ s.Chains, rs.length ≤ 1048576 ∧ ∀ r ∈ rs, r.Tests.length ≤ 1048576
theorem sm_Rs {s : Ruleset} (h : wRs s ≤ 1048576) : SmRs s := by
  have h1 := wtL_small h
  refine ⟨h1.1, fun rs hrs => ?_⟩
  have h2 := wtL_small (h1.2 rs hrs)
  exact ⟨h2.1, fun r hr => h2.2 r hr⟩
theorem to_Rs {s : Ruleset} (h : SmRs s) : laws_toRuleset s = some s := by
  unfold laws_toRuleset
  have e : laws_toRuleSS s.Chains = some s.Chains := by
    have h1 := h.1
    unfold laws_toRuleSS
    rw [make_len (by omega)]
    simp only [Option.bind_some]
    rw [loop_copy (f := laws_toRuleS) (body := laws_toRuleSS_L0 s.Chains) s.Chains _ (by simp) (by omega) (fun x hx => to_RuleS (h.2 x hx).1 (h.2 x hx).2) (fun _ _ => rfl)]; rfl
  rw [e]; rfl
theorem eq_Rs (s : Ruleset) (h : OkRs s) : laws_eqRuleset s s = some true := by
  unfold laws_eqRuleset
  rw [show laws_eqRuleSS s.Chains s.Chains = some (decide (s.Chains = s.Chains)) from eq_list (body := laws_eqRuleSS_L0 s.Chains s.Chains) s.Chains s.Chains h.1 (fun x hx y _ => eq_RuleS x y (h.2 x hx).1 (h.2 x hx).2) (fun _ => rfl)]
  simp
theorem to_PacketS {xs : List Packet} (h : xs.length ≤ 4294967296) : laws_toPacketS xs = some xs := by
  unfold laws_toPacketS
  rw [make_len h]
  simp only [Option.bind_some]
  rw [loop_copy (f := laws_toPacket) (body := laws_toPacketS_L0 xs) xs _ (by simp) (by omega) (fun x _ => to_Packet x) (fun _ _ => rfl)]; rfl
theorem eq_PacketS (xs : List Packet) (h : xs.length ≤ 9223372036854775807) : laws_eqPacketS xs xs = some true := by
  rw [show laws_eqPacketS xs xs = some (decide (xs = xs)) from eq_list (body := laws_eqPacketS_L0 xs xs) xs xs h (fun x _ y _ => eq_Packet x y) (fun _ => rfl)]
  simp
theorem plain_FnExactRulesetValid (a : Ruleset) (ga : G_Ruleset a) : laws_FnExactRulesetValid a = some true := by
  have ha := rs_of_G ga
  unfold laws_FnExactRulesetValid
  rw [sz_Rs (by decide) (by decide) ha, Option.bind_some]
  by_cases hs : wRs a ≤ 1048576
  · obtain ⟨r, e1, e2, _⟩ := (spec_ruleset ha).same (impl_ruleset ha)
    rw [left_pos hs, to_Rs (sm_Rs hs)]
    simp only [cond_false, Option.bind_some, e1, e2, eq_Rs _ ha]
    simp
  · rw [left_neg hs]; rfl
theorem plain_FnExactCallDepth (a : Ruleset) (b : Int) (ga : G_Ruleset a) (_gb : GInt b) : laws_FnExactCallDepth a b = some true := by
  have ha := rs_of_G ga
  unfold laws_FnExactCallDepth
  rw [sz_Rs (by decide) (by decide) ha, Option.bind_some]
  by_cases hs : wRs a ≤ 1048576
  · obtain ⟨r, e1, e2, _⟩ := depth_is ha b
    rw [left_pos hs, to_Rs (sm_Rs hs)]
    simp only [cond_false, Option.bind_some, e1, e2, eq_Rs _ ha]
    simp
  · rw [left_neg hs]; rfl
end Go.PF.F
