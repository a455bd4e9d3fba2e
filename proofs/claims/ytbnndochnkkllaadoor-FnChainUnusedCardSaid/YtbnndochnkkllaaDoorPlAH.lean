/- Plain laws: judging decides, unused chains do not matter. -/
import Derived.Test.YtbnndochnkkllaaDoorPlAG
namespace Go.PF.F
open Go Go.PF

theorem filter_split (q : Nat → Bool) {c n : Nat} (h : c < n) : ∃ t, (List.range n).filter q = (List.range c).filter q ++ ((if q c then [c] else []) ++ t) := by
  refine ⟨((List.range n).drop (c + 1)).filter q, ?_⟩
  conv => lhs; rw [← List.take_append_drop (c + 1) (List.range n)]
  rw [List.filter_append, List.take_range, Nat.min_eq_left (by omega), filter_snoc, List.append_assoc]
theorem unused_same {s : Ruleset} (hs : RsSm s) (h : RSV s) (q : Packet) {c : Nat} (hc : c < s.Chains.length) (hu : ¬ Reach s.Chains 0 c) {r : Bool} (e : impl_Judge s q = some r) :
    impl_Judge ⟨s.Chains.set c [({ Tests := [], Action := 1, Chain := 0 } : Rule)], s.Accept⟩ q = some r := by
  have hb := h.1
  have h1 := hb.n1
  have hx : RSV ⟨s.Chains.set c [({ Tests := [], Action := 1, Chain := 0 } : Rule)], s.Accept⟩ := rsv_set (a := s.Accept) h hc
    ⟨fun r hr => by rw [List.mem_singleton.1 hr]; exact ⟨⟨by simp, by simp⟩, by decide, .inr ⟨by decide, rfl⟩⟩, by simp⟩ (fun r hr => by rw [List.mem_singleton.1 hr]; simp only; omega) (fun d hd => by cases hd) _
  refine judge_same hs.ok (ok_set hs (by simp) (fun r hr => by rw [List.mem_singleton.1 hr]; simp) _) q ⟨fun _ => hx, fun _ => h⟩ (fun _ _ => ?_) e
  rw [judgeB_wa, judgeB_wa]
  have hwa := wa_reach (cs := s.Chains) (cs' := s.Chains.set c [({ Tests := [], Action := 1, Chain := 0 } : Rule)]) q (G := Reach s.Chains 0) (fun a d ha hd => ha.snoc hd) (fun a ha => ⟨fun r hr => ((hb.rv _ (ch_mem (ha.lt hb h1))).chain hr).1, by
    rw [ch_set hc, if_neg (fun e => hu (by rw [← e]; exact ha))]⟩) 5 0 (.refl 0)
  simp only [hwa]
theorem plain_FnChainUnused (code : List Int) (g : GAll GU8 code) : laws_FnChainUnused code = some true := by
  unfold laws_FnChainUnused
  refine draw_guard fun _ => ?_
  obtain ⟨s, q, e, hs⟩ := draw_case g
  obtain ⟨r, e1, e2, h1, h2⟩ := judge_is hs.ok q
  obtain ⟨u, _, e3, h3, h4⟩ := used_is hs.ok
  have hlen := hs.1
  rw [e]
  simp only [Option.bind_some, e1, e2, bne_self_eq_false, cond_false, e3, alive_is]
  by_cases hr : RSV s
  · have hb := hr.1
    have hn := hb.n1
    have hne : s.Chains ≠ [] := fun e => by rw [e] at hn; simp at hn
    obtain rfl := h3 hr
    have hul := usedN_len (cs := s.Chains)
    have h0 : 0 ∈ usedN s.Chains := (usedN_mem hb).2 (.refl _)
    have hpos : 0 < (usedN s.Chains).length := List.length_pos_of_mem h0
    have eo : loopF (laws_FnChainUnused_L0 (s, q) r (castL (usedN s.Chains))) ((((s.Chains.length : Int)) - 0).toNat.succ) (0, 0) = some (.brk (((((List.range s.Chains.length).filter (usedB s.Chains)).length : Nat) : Int), (s.Chains.length : Int))) := by
      refine loop_brk0 (body := laws_FnChainUnused_L0 (s, q) r (castL (usedN s.Chains))) s.Chains.length (fun k : Nat => (((((List.range k).filter (usedB s.Chains)).length : Nat) : Int), (k : Int))) rfl (fun k hk => ?_) ?_ (by omega)
      · have hf := filter_len (usedB s.Chains) k
        obtain ⟨t, ht⟩ := filter_split (usedB s.Chains) hk
        have hu : usedN s.Chains = (List.range k).filter (usedB s.Chains) ++ ((if usedB s.Chains k then [k] else []) ++ t) := ht
        unfold laws_FnChainUnused_L0
        simp only [castL_len, lt_true (show (k : Int) < (s.Chains.length : Int) by omega), cond_true, lt_true (show (0 : Int) < ((usedN s.Chains).length : Int) by omega), W_succ (show k < 9223372036854775807 by omega)]
        rw [filter_snoc]
        by_cases hk' : usedB s.Chains k = true
        · rw [if_pos hk'] at hu ⊢
          have hlt : ((List.range k).filter (usedB s.Chains)).length < (usedN s.Chains).length := by rw [hu]; simp
          have hget : (usedN s.Chains)[((List.range k).filter (usedB s.Chains)).length]'hlt = k := by
            have : (usedN s.Chains)[((List.range k).filter (usedB s.Chains)).length]? = some k := by
              rw [hu, List.getElem?_append_right (Nat.le_refl _), Nat.sub_self]; rfl
            rw [List.getElem?_eq_getElem hlt] at this
            exact Option.some.inj this
          rw [lt_true (show ((((List.range k).filter (usedB s.Chains)).length : Nat) : Int) < ((usedN s.Chains).length : Int) by omega), cond_true, castL_idx hlt, Option.bind_some, hget, beq_self_eq_true, cond_true, W_succ (by omega), List.length_append]; rfl
        · have hk' := Bool.eq_false_iff.2 hk'
          have hno : ¬ Reach s.Chains 0 k := fun h => by rw [(usedB_iff hb).2 h] at hk'; cases hk'
          have es := unused_same hs hr q hk hno e2
          rw [hk']
          simp only [Bool.false_eq_true, if_false, List.append_nil]
          have tail : ((neF s.Chains).bind fun _ => (appF ([] : List (List Rule)) s.Chains).bind fun z => (idx z (k : Int)).bind fun _ => (impl_Judge ⟨List.set z (k : Int).toNat [({ Tests := [], Action := 1, Chain := 0 } : Rule)], s.Accept⟩ q).bind fun x => bif x != r then some (.ret false) else some (.nxt (((((List.range k).filter (usedB s.Chains)).length : Nat) : Int), ((k + 1 : Nat) : Int))) : Option (SR (Int × Int) Bool)) = some (.nxt (((((List.range k).filter (usedB s.Chains)).length : Nat) : Int), ((k + 1 : Nat) : Int))) := by
            rw [neF_ok hne, Option.bind_some, app_ok (by simp; omega), Option.bind_some, List.nil_append, ch_idx hk, Option.bind_some, Int.toNat_natCast, es, Option.bind_some, bne_self_eq_false, cond_false]
          by_cases hlt : ((List.range k).filter (usedB s.Chains)).length < (usedN s.Chains).length
          · have hne' : (usedN s.Chains)[((List.range k).filter (usedB s.Chains)).length] ≠ k := fun e => hno ((usedN_mem hb).1 (e ▸ List.getElem_mem hlt))
            rw [lt_true (show ((((List.range k).filter (usedB s.Chains)).length : Nat) : Int) < ((usedN s.Chains).length : Int) by omega), cond_true, castL_idx hlt, Option.bind_some, (by simp; omega : ((((usedN s.Chains)[((List.range k).filter (usedB s.Chains)).length] : Nat) : Int) == (k : Int)) = false), cond_false]
            exact tail
          · rw [decide_eq_false (by omega : ¬ ((((List.range k).filter (usedB s.Chains)).length : Nat) : Int) < ((usedN s.Chains).length : Int)), cond_false]
            exact tail
      · unfold laws_FnChainUnused_L0
        simp only [lt_false (Int.le_refl _), cond_false]
    rw [eo]; rfl
  · obtain rfl := h4 hr
    have eo : laws_FnChainUnused_L0 (s, q) r [] (0, 0) = some (.brk (0, 0)) := by
      unfold laws_FnChainUnused_L0
      simp only
      cases decide ((0 : Int) < (s.Chains.length : Int)) <;> rfl
    unfold loopF
    rw [eo]; rfl
end Go.PF.F
