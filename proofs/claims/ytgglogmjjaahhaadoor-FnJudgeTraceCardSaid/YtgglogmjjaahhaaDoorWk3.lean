/- The walks; no condition. -/
import Derived.Test.YtgglogmjjaahhaaDoorProg
import Derived.Test.YtgglogmjjaahhaaDoorWk2
import Derived.Test.YtgglogmjjaahhaaDoorPFFresh
set_option maxRecDepth 100000
set_option maxHeartbeats 4000000
namespace Go.PF
open Go Go.RowKit Go.Proofs

theorem w_spec_RuleValid {w : World} {M : Nat → Prop} (hG : ARep (RArr 4 RShape) w M shapes ⟨0, 0, none⟩) (hO : ∀ b, M b → b < w.heap.size) {v0p : Value} {a_r : Rule} (h0 : VRep RRule w M a_r v0p) {r : Bool} (h : F.spec_RuleValid a_r = some r) :
  Calls Tryd.prog 94 [v0p].toArray w fun e w' => ∃ v, e = .returned v ∧ VRep RBool w' M r v ∧ BX No w w' := by
 have hC : Cx No w M w M := Cx.start hO (fun _ e => e.elim)
 refine walk (N := 31) Tryd.func94 Z Tryd.ntmps94 Z (cw_seq (cw_region (lw_op Z Z Z (ow_box (R := RRule) Z Z h0 hC fun p1 w1 hp1 hb1 hl1 hC1 => lw_op Z Z Z (ow_assign Z Z (lw_nil (ew_then (cw_seq (cw_region (lw_op Z Z Z (ow_fieldAddr Z Z Tryd.underlying42 Z (Tryd.sizeOf27 _) (lw_op Z Z Z (ow_load (R := (RSlice RTest)) Z Z (hp1.fld fld_Rule_Tests) (Tryd.sizeOf27 _) (Tryd.isAgg27 _) fun v1 hv1 => ?_)))))))))))))
 replace h := bind_some h
 obtain ⟨x1, hx1, h⟩ := h
 refine lw_op Z Z Z (ow_call Z Z Tryd.call98 (w_spec_TestsValid (hG.mono hl1) hC1.old hv1 hx1) fun v2 w2 hv2 => ?_)
 obtain ⟨hv2, hb2⟩ := hv2
 have hl2 := Le.no M hb2
 have hC2 := hC1.no hb2
 obtain rfl := vbool_eq hv2
 refine lw_op Z Z Z (ow_move Z Z ?_)
 replace h := cond_some h
 rcases h with ⟨hc1, h⟩ | ⟨hc1, h⟩
 ·
  subst hc1
  refine lw_on Z Z Z Z Z Z (ow_fieldAddr Z Z Tryd.underlying42 Z (Tryd.sizeOf3 _) (lw_on Z Z Z Z Z Z (ow_load (R := RInt) Z Z (ARep.mono hl2 (hp1.fld fld_Rule_Action)) (Tryd.sizeOf3 _) (Tryd.isAgg3 _) fun v3 hv3 => ?_)))
  obtain rfl := vint_eq hv3
  replace h := bind_some h
  obtain ⟨x2, hx2, h⟩ := h
  refine lw_on Z Z Z Z Z Z (ow_call Z Z Tryd.call70 (w_spec_l1In (hG.mono (hl1.trans hl2)) hC2.old hx2) fun v4 w3 hv4 => ?_)
  obtain ⟨hv4, hb3⟩ := hv4
  have hl3 := Le.no M hb3
  have hC3 := hC2.no hb3
  obtain rfl := vbool_eq hv4
  refine lw_op Z Z Z (ow_pickT Z Z Z (lw_op Z Z Z (ow_move Z Z ?_)))
  replace h := cond_some h
  rcases h with ⟨hc2, h⟩ | ⟨hc2, h⟩
  ·
   subst hc2
   refine lw_on Z Z Z Z Z Z (ow_fieldAddr Z Z Tryd.underlying42 Z (Tryd.sizeOf3 _) (lw_on Z Z Z Z Z Z (ow_load (R := RInt) Z Z (ARep.mono (hl2.trans hl3) (hp1.fld fld_Rule_Action)) (Tryd.sizeOf3 _) (Tryd.isAgg3 _) fun v5 hv5 => ?_)))
   obtain rfl := vint_eq hv5
   refine lw_on Z Z Z Z Z Z (ow_eqlI Z Z Z fun bb1 hbb1 => lw_on Z Z Z Z Z Z (ow_move Z Z ?_))
   replace h := cond_some h
   rcases h with ⟨hc3, h⟩ | ⟨hc3, h⟩
   ·
    obtain rfl := hbb1.trans hc3
    refine lw_on Z Z Z Z Z Z (ow_fieldAddr Z Z Tryd.underlying42 Z (Tryd.sizeOf3 _) (lw_on Z Z Z Z Z Z (ow_load (R := RInt) Z Z (ARep.mono (hl2.trans hl3) (hp1.fld fld_Rule_Chain)) (Tryd.sizeOf3 _) (Tryd.isAgg3 _) fun v6 hv6 => ?_)))
    obtain rfl := vint_eq hv6
    replace h := bind_some h
    obtain ⟨x3, hx3, h⟩ := h
    have lz1 := ((hl1.trans hl2).trans hl3)
    refine lw_on Z Z Z Z Z Z (ow_call Z Z Tryd.call70 (w_spec_l1In (hG.mono lz1) hC3.old hx3) fun v7 w4 hv7 => ?_)
    obtain ⟨hv7, hb4⟩ := hv7
    have hl4 := Le.no M hb4
    have hC4 := hC3.no hb4
    obtain rfl := vbool_eq hv7
    refine lw_on Z Z Z Z Z Z (ow_pickT Z Z Z (lw_on Z Z Z Z Z Z (ow_move Z Z ?_)))
    replace h := cond_some h
    rcases h with ⟨hc4, h⟩ | ⟨hc4, h⟩
    ·
     subst hc4
     refine lw_off Z Z Z Z Z Z (lw_off Z Z Z Z Z Z (lw_off Z Z Z Z Z Z (lw_off Z Z Z Z Z Z (lw_off' Z Z Z Z Z Z (lw_off' Z Z Z Z Z Z (lw_off' Z Z Z Z Z Z (lw_off Z Z Z Z Z Z (lw_on Z Z Z Z Z Z (ow_pickT Z Z Z (lw_op Z Z Z (ow_pickT Z Z Z (lw_op Z Z Z (ow_assign Z Z (lw_nil (ew_then (cw_ret ?_))))))))))))))))
     obtain rfl := Option.some.inj h
     exact ew_ret (res1 Z (.tmp Z)) ⟨_, Z, ((vbool _)), hC4.bx⟩
    ·
     subst hc4
     refine lw_on Z Z Z Z Z Z (ow_fieldAddr Z Z Tryd.underlying42 Z (Tryd.sizeOf3 _) ?_)
     have lz2 := ((hl2.trans hl3).trans hl4)
     refine lw_on Z Z Z Z Z Z (ow_load (R := RInt) Z Z (ARep.mono lz2 (hp1.fld fld_Rule_Action)) (Tryd.sizeOf3 _) (Tryd.isAgg3 _) fun v8 hv8 => ?_)
     obtain rfl := vint_eq hv8
     refine lw_on Z Z Z Z Z Z (ow_neqI Z Z Z fun bb2 hbb2 => lw_on Z Z Z Z Z Z (ow_move Z Z ?_))
     replace h := cond_some h
     rcases h with ⟨hc5, h⟩ | ⟨hc5, h⟩
     ·
      obtain rfl := hbb2.trans hc5
      refine lw_on Z Z Z Z Z Z (ow_fieldAddr Z Z Tryd.underlying42 Z (Tryd.sizeOf3 _) (lw_on Z Z Z Z Z Z (ow_load (R := RInt) Z Z (ARep.mono lz2 (hp1.fld fld_Rule_Chain)) (Tryd.sizeOf3 _) (Tryd.isAgg3 _) fun v9 hv9 => ?_)))
      obtain rfl := vint_eq hv9
      refine lw_on Z Z Z Z Z Z (ow_eqlI Z Z Z fun bb3 hbb3 => lw_on Z Z Z Z Z Z (ow_pickT Z Z Z (lw_on Z Z Z Z Z Z (ow_pickF Z Z Z (lw_op Z Z Z (ow_pickT Z Z Z (lw_op Z Z Z (ow_assign Z Z (lw_nil (ew_then (cw_ret ?_)))))))))))
      obtain rfl := Option.some.inj h
      exact ew_ret (res1 Z (.tmp Z)) ⟨_, Z, ((vbool_of hbb3)), hC4.bx⟩
     ·
      obtain rfl := hbb2.trans hc5
      refine lw_off Z Z Z Z Z Z (lw_off Z Z Z Z Z Z (lw_off Z Z Z Z Z Z (lw_on Z Z Z Z Z Z (ow_pickF Z Z Z (lw_on Z Z Z Z Z Z (ow_pickF Z Z Z (lw_op Z Z Z (ow_pickT Z Z Z (lw_op Z Z Z (ow_assign Z Z (lw_nil (ew_then (cw_ret ?_)))))))))))))
      obtain rfl := Option.some.inj h
      exact ew_ret (res1 Z (.tmp Z)) ⟨_, Z, ((vbool _)), hC4.bx⟩
   ·
    obtain rfl := hbb1.trans hc3
    refine lw_off Z Z Z Z Z Z (lw_off Z Z Z Z Z Z (lw_off Z Z Z Z Z Z (lw_on Z Z Z Z Z Z (ow_pickF Z Z Z (lw_on Z Z Z Z Z Z (ow_move Z Z (lw_on Z Z Z Z Z Z (ow_fieldAddr Z Z Tryd.underlying42 Z (Tryd.sizeOf3 _) (lw_on Z Z Z Z Z Z (ow_load (R := RInt) Z Z (ARep.mono (hl2.trans hl3) (hp1.fld fld_Rule_Action)) (Tryd.sizeOf3 _) (Tryd.isAgg3 _) fun v10 hv10 => ?_))))))))))
    obtain rfl := vint_eq hv10
    refine lw_on Z Z Z Z Z Z (ow_neqI Z Z Z fun bb4 hbb4 => lw_on Z Z Z Z Z Z (ow_move Z Z ?_))
    replace h := cond_some h
    rcases h with ⟨hc6, h⟩ | ⟨hc6, h⟩
    ·
     obtain rfl := hbb4.trans hc6
     refine lw_on Z Z Z Z Z Z (ow_fieldAddr Z Z Tryd.underlying42 Z (Tryd.sizeOf3 _) (lw_on Z Z Z Z Z Z (ow_load (R := RInt) Z Z (ARep.mono (hl2.trans hl3) (hp1.fld fld_Rule_Chain)) (Tryd.sizeOf3 _) (Tryd.isAgg3 _) fun v11 hv11 => ?_)))
     obtain rfl := vint_eq hv11
     refine lw_on Z Z Z Z Z Z (ow_eqlI Z Z Z fun bb5 hbb5 => lw_on Z Z Z Z Z Z (ow_pickT Z Z Z (lw_on Z Z Z Z Z Z (ow_pickF Z Z Z (lw_op Z Z Z (ow_pickT Z Z Z (lw_op Z Z Z (ow_assign Z Z (lw_nil (ew_then (cw_ret ?_)))))))))))
     obtain rfl := Option.some.inj h
     exact ew_ret (res1 Z (.tmp Z)) ⟨_, Z, ((vbool_of hbb5)), hC3.bx⟩
    ·
     obtain rfl := hbb4.trans hc6
     refine lw_off Z Z Z Z Z Z (lw_off Z Z Z Z Z Z (lw_off Z Z Z Z Z Z (lw_on Z Z Z Z Z Z (ow_pickF Z Z Z (lw_on Z Z Z Z Z Z (ow_pickF Z Z Z (lw_op Z Z Z (ow_pickT Z Z Z (lw_op Z Z Z (ow_assign Z Z (lw_nil (ew_then (cw_ret ?_)))))))))))))
     obtain rfl := Option.some.inj h
     exact ew_ret (res1 Z (.tmp Z)) ⟨_, Z, ((vbool _)), hC3.bx⟩
  ·
   subst hc2
   refine lw_off Z Z Z Z Z Z (lw_off Z Z Z Z Z Z (lw_off Z Z Z Z Z Z (lw_off Z Z Z Z Z Z (lw_off' Z Z Z Z Z Z (lw_off' Z Z Z Z Z Z (lw_off' Z Z Z Z Z Z (lw_off Z Z Z Z Z Z (lw_off Z Z Z Z Z Z (lw_off' Z Z Z Z Z Z (lw_off' Z Z Z Z Z Z (lw_off' Z Z Z Z Z Z (lw_off' Z Z Z Z Z Z (lw_off' Z Z Z Z Z Z (lw_off' Z Z Z Z Z Z (lw_off' Z Z Z Z Z Z (lw_off' Z Z Z Z Z Z (lw_off Z Z Z Z Z Z (lw_op Z Z Z (ow_pickF Z Z Z (lw_op Z Z Z (ow_assign Z Z (lw_nil (ew_then (cw_ret ?_))))))))))))))))))))))))
   obtain rfl := Option.some.inj h
   exact ew_ret (res1 Z (.tmp Z)) ⟨_, Z, ((vbool _)), hC3.bx⟩
 ·
  subst hc1
  refine lw_off Z Z Z Z Z Z (lw_off Z Z Z Z Z Z (lw_off Z Z Z Z Z Z (lw_op Z Z Z (ow_pickF Z Z Z (lw_op Z Z Z (ow_move Z Z (lw_off Z Z Z Z Z Z (lw_off Z Z Z Z Z Z (lw_off Z Z Z Z Z Z (lw_off Z Z Z Z Z Z (lw_off' Z Z Z Z Z Z (lw_off' Z Z Z Z Z Z (lw_off' Z Z Z Z Z Z (lw_off Z Z Z Z Z Z (lw_off Z Z Z Z Z Z (lw_off' Z Z Z Z Z Z (lw_off' Z Z Z Z Z Z (lw_off' Z Z Z Z Z Z (lw_off' Z Z Z Z Z Z (lw_off' Z Z Z Z Z Z (lw_off' Z Z Z Z Z Z (lw_off' Z Z Z Z Z Z (lw_off' Z Z Z Z Z Z (lw_off Z Z Z Z Z Z (lw_op Z Z Z (ow_pickF Z Z Z (lw_op Z Z Z (ow_assign Z Z ?_))))))))))))))))))))))))))))
  refine lw_nil (ew_then (cw_ret ?_))
  obtain rfl := Option.some.inj h
  exact ew_ret (res1 Z (.tmp Z)) ⟨_, Z, ((vbool _)), hC2.bx⟩

theorem w_spec_RulesValid {w : World} {M : Nat → Prop} (hG : ARep (RArr 4 RShape) w M shapes ⟨0, 0, none⟩) (hO : ∀ b, M b → b < w.heap.size) {v0p : Value} {a_list : List Rule} (h0 : VRep (RSlice RRule) w M a_list v0p) {r : Bool} (h : F.spec_RulesValid a_list = some r) :
  Calls Tryd.prog 69 [v0p].toArray w fun e w' => ∃ v, e = .returned v ∧ VRep RBool w' M r v ∧ BX No w w' := by
 have hC : Cx No w M w M := Cx.start hO (fun _ e => e.elim)
 refine walk (N := 19) Tryd.func69 Z Tryd.ntmps69 Z (cw_seq (cw_region (lw_op Z Z Z (ow_assign Z Z (lw_nil (ew_then (cw_seq (cw_seq (cw_region (lw_op Z Z Z (ow_assign Z Z (lw_nil (ew_then ?_)))))))))))))
 replace h := bind_some h
 obtain ⟨lr1, hlr1, h⟩ := h
 refine cw_for hlr1 (fun s a w' => ∃ (M' : Nat → Prop), Fits 19 [(0, v0p), (3, (.int .i64 s))] a ∧ Le w M w' M' ∧ Cx No w M w' M') ?_ ?_ ?_
 ·
  intro a ha
  exact ⟨M, ha.sub ⟨Z, Z, trivial⟩, Le.refl _ _, hC⟩
 ·
  rintro k1 a w1 sr1 ⟨M1, hF1, hl1, hC1⟩ hb1 hR1
  refine cw_at (E := [(0, v0p), (3, (.int .i64 k1))]) hF1 (cw_seq (cw_seq (cw_region (lw_op Z Z Z (ow_move Z Z (lw_op Z Z Z (ow_move Z Z (lw_op Z Z Z (ow_len Z Z (VRep.mono hl1 h0) Tryd.underlying36 Z (lw_op Z Z Z (ow_lss Z Z Z fun bb1 hbb1 => lw_nil (ew_then ?_))))))))))))
  replace hb1 := cond_some hb1
  rcases hb1 with ⟨hc1, hb1⟩ | ⟨hc1, hb1⟩
  ·
   obtain rfl := hbb1.trans hc1
   refine cw_true Z (cw_skip (ew_then (cw_seq (cw_block (cw_seq (cw_region (lw_op Z Z Z (ow_move Z Z (lw_op Z Z Z (ow_move Z Z ?_))))))))))
   replace hb1 := bind_some hb1
   obtain ⟨x1, hx1, hb1⟩ := hb1
   refine lw_op Z Z Z (ow_indexSlice (R := RRule) Z Z Z (VRep.mono hl1 h0) Tryd.underlying36 (Tryd.sizeOf42 _) hx1 fun p1 hp1 => lw_op Z Z Z (ow_load (R := RRule) Z Z hp1 (Tryd.sizeOf42 _) (Tryd.isAgg42 _) fun v2 hv2 => ?_))
   replace hb1 := bind_some hb1
   obtain ⟨x2, hx2, hb1⟩ := hb1
   refine lw_op Z Z Z (ow_call Z Z Tryd.call94 (w_spec_RuleValid (hG.mono hl1) hC1.old hv2 hx2) fun v3 w2 hv3 => ?_)
   obtain ⟨hv3, hb2⟩ := hv3
   have hl2 := Le.no M1 hb2
   have hC2 := hC1.no hb2
   obtain rfl := vbool_eq hv3
   refine lw_op Z Z Z (ow_not Z Z (lw_nil (ew_then ?_)))
   replace hb1 := cond_some hb1
   rcases hb1 with ⟨hc2, hb1⟩ | ⟨hc2, hb1⟩
   ·
    subst hc2
    exact cw_false Z (cw_skip (ew_blockN (ew_then (cw_region (lw_op Z Z Z (ow_move Z Z (lw_op Z Z Z (ow_add Z Z Z (lw_op Z Z Z (ow_assign Z Z (lw_nil (ew_nxt (W (k1 + 1)) hb1 fun a ha => ⟨M1, (ha.sub ⟨Z, Z, trivial⟩), (hl1.trans hl2), hC2⟩))))))))))))
   ·
    subst hc2
    refine cw_true Z (cw_seq (cw_region (lw_op Z Z Z (ow_assign Z Z (lw_nil (ew_then (cw_ret (ew_blockR (ew_thenR (ew_thenR (ew_blockR (ew_brkR (ew_thenR ?_)))))))))))))
    have e1 := hR1 _ (Option.some.inj hb1).symm
    subst e1
    obtain rfl := Option.some.inj h
    exact ew_ret (res1 Z (.tmp Z)) ⟨_, Z, ((vbool _)), hC2.bx⟩
  ·
   obtain rfl := hbb1.trans hc1
   exact cw_false Z (cw_exit (ew_thenX (ew_thenX (ew_blockX (ew_brk k1 hb1 fun a ha => ⟨M1, (ha.sub ⟨Z, Z, trivial⟩), hl1, hC1⟩)))))
 ·
  rintro k2 a w3 hlr2 ⟨M2, hF2, hl3, hC3⟩
  subst hlr2
  refine ew_at (E := [(0, v0p), (3, (.int .i64 k2))]) hF2 (ew_then (cw_seq (cw_region (lw_op Z Z Z (ow_move Z Z (lw_op Z Z Z (ow_len Z Z (VRep.mono hl3 h0) Tryd.underlying36 Z (lw_op Z Z Z (ow_leq Z Z Z fun bb2 hbb2 => lw_op Z Z Z (ow_assign Z Z (lw_nil (ew_then (cw_ret ?_)))))))))))))
  obtain rfl := Option.some.inj h
  exact ew_ret (res1 Z (.tmp Z)) ⟨_, Z, ((vbool_of hbb2)), hC3.bx⟩

theorem w_spec_l8Order {w : World} {M : Nat → Prop} (_hG : ARep (RArr 4 RShape) w M shapes ⟨0, 0, none⟩) (hO : ∀ b, M b → b < w.heap.size) {v0p : Value} {a_s : Ruleset} (h0 : VRep RRuleset w M a_s v0p) {r : (List Int)} (h : F.spec_l8Order a_s = some r) :
  Calls Tryd.prog 71 [v0p].toArray w fun e w' => ∃ v, e = .returned v ∧ VRep (RSlice RInt) w' M r v ∧ BX No w w' := by
 obtain ⟨i3, hi3, hz3, hs3, hy3⟩ := info3
 obtain ⟨i4, hi4, hz4, hs4, hy4⟩ := info4
 have hC : Cx No w M w M := Cx.start hO (fun _ e => e.elim)
 clear _hG
 refine walk (N := 74) Tryd.func71 Z Tryd.ntmps71 Z (cw_seq (cw_region (lw_op Z Z Z (ow_box (R := RRuleset) Z Z h0 hC fun p1 w1 hp1 hb1 hl1 hC1 => lw_op Z Z Z (ow_assign Z Z (lw_nil (ew_then (cw_seq (cw_region (lw_op Z Z Z (ow_fieldAddr Z Z Tryd.underlying45 Z (Tryd.sizeOf43 _) (lw_op Z Z Z (ow_load (R := (RSlice (RSlice RRule))) Z Z (hp1.fld fld_Ruleset_Chains) (Tryd.sizeOf43 _) (Tryd.isAgg43 _) fun v1 hv1 => lw_op Z Z Z (ow_len Z Z hv1 Tryd.underlying43 Z ?_))))))))))))))
 replace h := bind_some h
 obtain ⟨mk1, hmk1, h⟩ := h
 refine lw_op Z Z Z (ow_make (R := RBool) Z Z Z Tryd.underlying56 hi4 hz4 hs4 hy4 Z Z (vbool false) hmk1 hC1 fun v2 w2 M1 hr1 hb2 hl2 hC2 hM1 hat1 => lw_op Z Z Z (ow_assign Z Z (lw_nil (ew_then (cw_seq (cw_region (lw_op Z Z Z (ow_buildSlice0 (R := RInt) (e := 3) Z (by kernel_rfl) hC2 fun p2 w3 M2 hr2 hb3 hl3 hC3 hM2 hat2 => ?_))))))))
 have hr3 := hr1.go hb3 (fun _ _ e => e) hl3 hM2
 refine lw_op Z Z Z (ow_assign Z Z (lw_nil (ew_then (cw_seq (cw_seq (cw_region (lw_op Z Z Z (ow_assign Z Z (lw_nil (ew_then ?_))))))))))
 replace h := bind_some h
 obtain ⟨lr1, hlr1, h⟩ := h
 refine cw_for hlr1 (fun s a w' => ∃ (M' : Nat → Prop) (v0c : Value), Fits 74 [(1, (.pointer (some p1))), (3, v2), (4, v0c), (5, (.int .i64 s.2.1))] a ∧ Le w3 M2 w' M' ∧ Cx No w M w' M' ∧ OwnRow RInt w.heap.size 3 w' M' s.1 v0c ∧ OwnRow RBool w.heap.size 4 w' M' s.2.2 v2) ?_ ?_ ?_
 ·
  intro a ha
  exact ⟨M2, (.slice (some p2) 0 0), ha.sub ⟨Z, Z, Z, Z, trivial⟩, Le.refl _ _, hC3, hr2, hr3⟩
 ·
  rintro ⟨y1, k1, y2⟩ a w4 sr1 ⟨M3, v3, hF1, hl4, hC4, hw1, hw2⟩ hb4 hR1
  refine cw_at (E := [(1, (.pointer (some p1))), (3, v2), (4, v3), (5, (.int .i64 k1))]) hF1 (cw_seq (cw_seq (cw_region (lw_op Z Z Z (ow_move Z Z (lw_op Z Z Z (ow_fieldAddr Z Z Tryd.underlying45 Z (Tryd.sizeOf43 _) ?_)))))))
  have lz1 := ((hl2.trans hl3).trans hl4)
  refine lw_op Z Z Z (ow_load (R := (RSlice (RSlice RRule))) Z Z (ARep.mono lz1 (hp1.fld fld_Ruleset_Chains)) (Tryd.sizeOf43 _) (Tryd.isAgg43 _) fun v6 hv6 => lw_op Z Z Z (ow_len Z Z hv6 Tryd.underlying43 Z (lw_op Z Z Z (ow_lss Z Z Z fun bb1 hbb1 => lw_nil (ew_then ?_)))))
  replace hb4 := cond_some hb4
  rcases hb4 with ⟨hc1, hb4⟩ | ⟨hc1, hb4⟩
  ·
   obtain rfl := hbb1.trans hc1
   refine cw_true Z (cw_skip (ew_then (cw_seq (cw_block (cw_seq (cw_region (lw_op Z Z Z (ow_assign Z Z (lw_nil (ew_then ?_))))))))))
   replace hb4 := bind_some hb4
   obtain ⟨lr2, hlr2, hb4⟩ := hb4
   refine cw_for hlr2 (fun s a w' => ∃ (M' : Nat → Prop) (v0c : Value), Fits 74 [(1, (.pointer (some p1))), (3, v2), (4, v0c), (5, (.int .i64 k1)), (6, (.int .i64 s.2.1))] a ∧ Le w4 M3 w' M' ∧ Cx No w M w' M' ∧ OwnRow RInt w.heap.size 3 w' M' s.1 v0c ∧ OwnRow RBool w.heap.size 4 w' M' s.2.2 v2) ?_ ?_ ?_
   ·
    intro a ha
    exact ⟨M3, v3, ha.sub ⟨Z, Z, Z, Z, Z, trivial⟩, Le.refl _ _, hC4, hw1, hw2⟩
   ·
    rintro ⟨y3, k2, y4⟩ a w5 sr2 ⟨M4, v7, hF2, hl5, hC5, hw3, hw4⟩ hb5 hR2
    refine cw_at (E := [(1, (.pointer (some p1))), (3, v2), (4, v7), (5, (.int .i64 k1)), (6, (.int .i64 k2))]) hF2 (cw_seq (cw_seq (cw_region (lw_op Z Z Z (ow_move Z Z (lw_op Z Z Z (ow_fieldAddr Z Z Tryd.underlying45 Z (Tryd.sizeOf43 _) (lw_op Z Z Z (ow_load (R := (RSlice (RSlice RRule))) Z Z (ARep.mono (lz1.trans hl5) (hp1.fld fld_Ruleset_Chains)) (Tryd.sizeOf43 _) (Tryd.isAgg43 _) fun v10 hv10 => lw_op Z Z Z (ow_len Z Z hv10 Tryd.underlying43 Z (lw_op Z Z Z (ow_lss Z Z Z fun bb2 hbb2 => lw_nil (ew_then ?_)))))))))))))
    replace hb5 := cond_some hb5
    rcases hb5 with ⟨hc2, hb5⟩ | ⟨hc2, hb5⟩
    ·
     obtain rfl := hbb2.trans hc2
     refine cw_true Z (cw_skip (ew_then (cw_seq (cw_block (cw_seq (cw_region (lw_op Z Z Z (ow_move Z Z (lw_op Z Z Z (ow_move Z Z ?_))))))))))
     replace hb5 := bind_some hb5
     obtain ⟨x1, hx1, hb5⟩ := hb5
     refine lw_op Z Z Z (ow_indexRow (R := RBool) Z Z Z hw4 Tryd.underlying56 (Tryd.sizeOf4 _) hx1 (lw_op Z Z Z (ow_loadElRow (R := RBool) (S := RBool) Z Z Z hw4 (orow_blk hw4 hx1) hx1 (Fld.whole RBool) (Tryd.sizeOf4 _) (Tryd.isAgg4 _) fun v11 hv11 => ?_)))
     obtain rfl := vbool_eq hv11
     refine lw_op Z Z Z (ow_not Z Z (lw_op Z Z Z (ow_assign Z Z (lw_nil (ew_then (cw_seq (cw_seq (cw_region (lw_op Z Z Z (ow_assign Z Z (lw_nil (ew_then ?_))))))))))))
     replace hb5 := bind_some hb5
     obtain ⟨lr3, hlr3, hb5⟩ := hb5
     refine cw_for hlr3 (fun s a w' => ∃ (M' : Nat → Prop), Fits 74 [(1, (.pointer (some p1))), (3, v2), (4, v7), (5, (.int .i64 k1)), (6, (.int .i64 k2)), (7, (.bool s.1)), (8, (.int .i64 s.2.1))] a ∧ Le w5 M4 w' M' ∧ Cx No w M w' M' ∧ OwnRow RBool w.heap.size 4 w' M' s.2.2.1 v2 ∧ OwnRow RInt w.heap.size 3 w' M' s.2.2.2 v7) ?_ ?_ ?_
     ·
      intro a ha
      exact ⟨M4, ha.sub ⟨Z, Z, Z, Z, Z, Z, Z, trivial⟩, Le.refl _ _, hC5, hw4, hw3⟩
     ·
      rintro ⟨y5, k3, y6, y7⟩ a w6 sr3 ⟨M5, hF3, hl6, hC6, hw5, hw6⟩ hb6 hR3
      refine cw_at (E := [(1, (.pointer (some p1))), (3, v2), (4, v7), (5, (.int .i64 k1)), (6, (.int .i64 k2)), (7, (.bool y5)), (8, (.int .i64 k3))]) hF3 (cw_seq (cw_seq (cw_region (lw_op Z Z Z (ow_move Z Z (lw_op Z Z Z (ow_fieldAddr Z Z Tryd.underlying45 Z (Tryd.sizeOf43 _) ?_)))))))
      have lz2 := ((lz1.trans hl5).trans hl6)
      refine lw_op Z Z Z (ow_load (R := (RSlice (RSlice RRule))) Z Z (ARep.mono lz2 (hp1.fld fld_Ruleset_Chains)) (Tryd.sizeOf43 _) (Tryd.isAgg43 _) fun v16 hv16 => lw_op Z Z Z (ow_move Z Z ?_))
      replace hb6 := bind_some hb6
      obtain ⟨x2, hx2, hb6⟩ := hb6
      refine lw_op Z Z Z (ow_indexSlice (R := (RSlice RRule)) Z Z Z hv16 Tryd.underlying43 (Tryd.sizeOf36 _) hx2 fun p3 hp3 => lw_op Z Z Z (ow_load (R := (RSlice RRule)) Z Z hp3 (Tryd.sizeOf36 _) (Tryd.isAgg36 _) fun v17 hv17 => lw_op Z Z Z (ow_len Z Z hv17 Tryd.underlying36 Z (lw_op Z Z Z (ow_lss Z Z Z fun bb3 hbb3 => lw_nil (ew_then ?_))))))
      replace hb6 := cond_some hb6
      rcases hb6 with ⟨hc3, hb6⟩ | ⟨hc3, hb6⟩
      ·
       obtain rfl := hbb3.trans hc3
       refine cw_true Z (cw_skip (ew_then (cw_seq (cw_block (cw_seq (cw_region (lw_op Z Z Z (ow_fieldAddr Z Z Tryd.underlying45 Z (Tryd.sizeOf43 _) (lw_op Z Z Z (ow_load (R := (RSlice (RSlice RRule))) Z Z (ARep.mono lz2 (hp1.fld fld_Ruleset_Chains)) (Tryd.sizeOf43 _) (Tryd.isAgg43 _) fun v18 hv18 => lw_op Z Z Z (ow_move Z Z (lw_op Z Z Z (ow_indexSlice (R := (RSlice RRule)) Z Z Z hv18 Tryd.underlying43 (Tryd.sizeOf36 _) hx2 fun p4 hp4 => lw_op Z Z Z (ow_load (R := (RSlice RRule)) Z Z hp4 (Tryd.sizeOf36 _) (Tryd.isAgg36 _) fun v19 hv19 => lw_op Z Z Z (ow_move Z Z ?_)))))))))))))))
       replace hb6 := bind_some hb6
       obtain ⟨x3, hx3, hb6⟩ := hb6
       refine lw_op Z Z Z (ow_indexSlice (R := RRule) Z Z Z hv19 Tryd.underlying36 (Tryd.sizeOf42 _) hx3 fun p5 hp5 => lw_op Z Z Z (ow_load (R := RRule) Z Z hp5 (Tryd.sizeOf42 _) (Tryd.isAgg42 _) fun v20 hv20 => lw_allocStore (R := RRule) Z Z Z Z Z Z Z Tryd.zeroValue42 Tryd.sizeOf42 Z Z Z (by simp) hv20 hC6 fun p6 w7 hp6 hb7 hl7 hC7 => ?_))
       have hr4 := hw5.no hb7
       have hr5 := hw6.no hb7
       refine lw_nil (ew_then (cw_region (lw_op Z Z Z (ow_move Z Z (lw_op Z Z Z (ow_move Z Z ?_))))))
       replace hb6 := cond_some hb6
       rcases hb6 with ⟨hc4, hb6⟩ | ⟨hc4, hb6⟩
       ·
        subst hc4
        refine lw_on Z Z Z Z Z Z (ow_fieldAddr Z Z Tryd.underlying42 Z (Tryd.sizeOf3 _) (lw_on Z Z Z Z Z Z (ow_load (R := RInt) Z Z (hp6.fld fld_Rule_Action) (Tryd.sizeOf3 _) (Tryd.isAgg3 _) fun v21 hv21 => ?_)))
        obtain rfl := vint_eq hv21
        refine lw_on Z Z Z Z Z Z (ow_neqI Z Z Z fun bb4 hbb4 => lw_on Z Z Z Z Z Z (ow_move Z Z ?_))
        replace hb6 := cond_some hb6
        rcases hb6 with ⟨hc5, hb6⟩ | ⟨hc5, hb6⟩
        ·
         obtain rfl := hbb4.trans hc5
         exact lw_off Z Z Z Z Z Z (lw_off Z Z Z Z Z Z (lw_off Z Z Z Z Z Z (lw_off Z Z Z Z Z Z (lw_off Z Z Z Z Z Z (lw_on Z Z Z Z Z Z (ow_pickT Z Z Z (lw_op Z Z Z (ow_pickT Z Z Z (lw_op Z Z Z (ow_assign Z Z (lw_nil (ew_blockN (ew_then (cw_region (lw_op Z Z Z (ow_move Z Z (lw_op Z Z Z (ow_add Z Z Z (lw_op Z Z Z (ow_assign Z Z (lw_nil (ew_nxt (true, (W (k3 + 1)), y6, y7) hb6 fun a ha => ⟨M5, (ha.sub ⟨Z, Z, Z, Z, Z, Z, Z, trivial⟩), (hl6.trans hl7), hC7, hr4, hr5⟩))))))))))))))))))))))
        ·
         obtain rfl := hbb4.trans hc5
         refine lw_on Z Z Z Z Z Z (ow_move Z Z (lw_on Z Z Z Z Z Z (ow_fieldAddr Z Z Tryd.underlying42 Z (Tryd.sizeOf3 _) (lw_on Z Z Z Z Z Z (ow_load (R := RInt) Z Z (hp6.fld fld_Rule_Chain) (Tryd.sizeOf3 _) (Tryd.isAgg3 _) fun v22 hv22 => ?_)))))
         obtain rfl := vint_eq hv22
         replace hb6 := bind_some hb6
         obtain ⟨x4, hx4, hb6⟩ := hb6
         refine lw_on Z Z Z Z Z Z (ow_indexRow (R := RBool) Z Z Z hr4 Tryd.underlying56 (Tryd.sizeOf4 _) hx4 (lw_on Z Z Z Z Z Z (ow_loadElRow (R := RBool) (S := RBool) Z Z Z hr4 (orow_blk hr4 hx4) hx4 (Fld.whole RBool) (Tryd.sizeOf4 _) (Tryd.isAgg4 _) fun v23 hv23 => ?_)))
         obtain rfl := vbool_eq hv23
         exact lw_on Z Z Z Z Z Z (ow_pickF Z Z Z (lw_op Z Z Z (ow_pickT Z Z Z (lw_op Z Z Z (ow_assign Z Z (lw_nil (ew_blockN (ew_then (cw_region (lw_op Z Z Z (ow_move Z Z (lw_op Z Z Z (ow_add Z Z Z (lw_op Z Z Z (ow_assign Z Z (lw_nil (ew_nxt (x4, (W (k3 + 1)), y6, y7) hb6 fun a ha => ⟨M5, (ha.sub ⟨Z, Z, Z, Z, Z, Z, Z, trivial⟩), (hl6.trans hl7), hC7, hr4, hr5⟩)))))))))))))))))
       ·
        subst hc4
        exact lw_off Z Z Z Z Z Z (lw_off Z Z Z Z Z Z (lw_off Z Z Z Z Z Z (lw_off Z Z Z Z Z Z (lw_off' Z Z Z Z Z Z (lw_off' Z Z Z Z Z Z (lw_off' Z Z Z Z Z Z (lw_off' Z Z Z Z Z Z (lw_off' Z Z Z Z Z Z (lw_off Z Z Z Z Z Z (lw_op Z Z Z (ow_pickF Z Z Z (lw_op Z Z Z (ow_assign Z Z (lw_nil (ew_blockN (ew_then (cw_region (lw_op Z Z Z (ow_move Z Z (lw_op Z Z Z (ow_add Z Z Z (lw_op Z Z Z (ow_assign Z Z (lw_nil (ew_nxt (false, (W (k3 + 1)), y6, y7) hb6 fun a ha => ⟨M5, (ha.sub ⟨Z, Z, Z, Z, Z, Z, Z, trivial⟩), (hl6.trans hl7), hC7, hr4, hr5⟩)))))))))))))))))))))))))
      ·
       obtain rfl := hbb3.trans hc3
       exact cw_false Z (cw_exit (ew_thenX (ew_thenX (ew_blockX (ew_brk (y5, k3, y6, y7) hb6 fun a ha => ⟨M5, (ha.sub ⟨Z, Z, Z, Z, Z, Z, Z, trivial⟩), hl6, hC6, hw5, hw6⟩)))))
     ·
      rintro ⟨y8, k4, y9, y10⟩ a w8 hlr4 ⟨M6, hF4, hl8, hC8, hw7, hw8⟩
      subst hlr4
      refine ew_at (E := [(1, (.pointer (some p1))), (3, v2), (4, v7), (5, (.int .i64 k1)), (6, (.int .i64 k2)), (7, (.bool y8)), (8, (.int .i64 k4))]) hF4 (ew_then (cw_seq (cw_region (lw_op Z Z Z (ow_move Z Z (lw_nil (ew_then ?_)))))))
      replace hb5 := cond_some hb5
      rcases hb5 with ⟨hc6, hb5⟩ | ⟨hc6, hb5⟩
      ·
       subst hc6
       refine cw_true Z (cw_seq (cw_region (lw_op Z Z Z (ow_move Z Z (lw_op Z Z Z (ow_move Z Z ?_))))))
       replace hb5 := bind_some hb5
       obtain ⟨x5, hx5, hb5⟩ := hb5
       refine lw_op Z Z Z (ow_indexRow (R := RBool) Z Z Z hw7 Tryd.underlying56 (Tryd.sizeOf4 _) hx5 (lw_op0 Z Z (ow_storeElRow (X := No) (R := RBool) (S := RBool) Z Z Z Z hw7 (orow_blk hw7 hx5) hx5 (FldSet.whole RBool) (Tryd.sizeOf4 _) (vbool _) (Nat.le_refl _) hC8 fun w9 ho1 hb8 hl9 hC9 => ?_)))
       have hr6 := hw8.go hb8 (fun k hk e => orow_row_ne hw8 hw7 (by decide) hk (by rw [orow_blk hw7 hx5]; exact congrArg some e.symm)) hl9 (fun _ h => h)
       refine lw_nil (ew_then (cw_region (lw_op Z Z Z (ow_move Z Z (lw_op Z Z Z (ow_move Z Z (lw_op Z Z Z (ow_buildSlice (R := RInt) (xs := [k2]) (cs := #[(.int .i64 k2)]) (e := 3) Z Z (by kernel_rfl) Z Z ⟨_, _, Z, (vint _).cells, Z⟩ hC9 fun p7 w10 hw9 hb9 hl10 hC10 => ?_))))))))
       have hr7 := ho1.no hb9
       have hr8 := hr6.no hb9
       replace hb5 := bind_some hb5
       obtain ⟨z1, hz1, hb5⟩ := hb5
       refine lw_op Z Z Z (ow_append (R := RInt) Z Z Z Z Tryd.underlying52 hi3 hz3 hs3 hy3 Z Z Z Z hr8 hw9 hz1 hC10 fun v28 w11 M7 hr9 hb10 hl11 hC11 hM3 hat3 => ?_)
       have hr10 := hr7.goRow hr8 hb10 hl11 hM3 (by decide)
       refine lw_op Z Z Z (ow_assign Z Z (lw_nil (ew_blockN (ew_then (cw_region (lw_op Z Z Z (ow_move Z Z (lw_op Z Z Z (ow_add Z Z Z (lw_op Z Z Z (ow_assign Z Z (lw_nil ?_))))))))))))
       have lz3 := ((((hl5.trans hl8).trans hl9).trans hl10).trans hl11)
       exact ew_nxt (z1, (W (k2 + 1)), (List.set y9 (k2 : Int).toNat true)) hb5 fun a ha => ⟨M7, v28, (ha.sub ⟨Z, Z, Z, Z, Z, trivial⟩), lz3, hC11, hr9, hr10⟩
      ·
       subst hc6
       exact cw_false Z (cw_skip (ew_blockN (ew_then (cw_region (lw_op Z Z Z (ow_move Z Z (lw_op Z Z Z (ow_add Z Z Z (lw_op Z Z Z (ow_assign Z Z (lw_nil (ew_nxt (y10, (W (k2 + 1)), y9) hb5 fun a ha => ⟨M6, v7, (ha.sub ⟨Z, Z, Z, Z, Z, trivial⟩), (hl5.trans hl8), hC8, hw8, hw7⟩))))))))))))
    ·
     obtain rfl := hbb2.trans hc2
     exact cw_false Z (cw_exit (ew_thenX (ew_thenX (ew_blockX (ew_brk (y3, k2, y4) hb5 fun a ha => ⟨M4, v7, (ha.sub ⟨Z, Z, Z, Z, Z, trivial⟩), hl5, hC5, hw3, hw4⟩)))))
   ·
    rintro ⟨y11, k5, y12⟩ a w12 hlr5 ⟨M8, v29, hF5, hl12, hC12, hw10, hw11⟩
    subst hlr5
    exact ew_at (E := [(1, (.pointer (some p1))), (3, v2), (4, v29), (5, (.int .i64 k1)), (6, (.int .i64 k5))]) hF5 (ew_blockN (ew_then (cw_region (lw_op Z Z Z (ow_move Z Z (lw_op Z Z Z (ow_add Z Z Z (lw_op Z Z Z (ow_assign Z Z (lw_nil (ew_nxt (y11, (W (k1 + 1)), y12) hb4 fun a ha => ⟨M8, v29, (ha.sub ⟨Z, Z, Z, Z, trivial⟩), (hl4.trans hl12), hC12, hw10, hw11⟩)))))))))))
  ·
   obtain rfl := hbb1.trans hc1
   exact cw_false Z (cw_exit (ew_thenX (ew_thenX (ew_blockX (ew_brk (y1, k1, y2) hb4 fun a ha => ⟨M3, v3, (ha.sub ⟨Z, Z, Z, Z, trivial⟩), hl4, hC4, hw1, hw2⟩)))))
 ·
  rintro ⟨y13, k6, y14⟩ a w13 hlr6 ⟨M9, v32, hF6, hl13, hC13, hw12, hw13⟩
  subst hlr6
  refine ew_at (E := [(1, (.pointer (some p1))), (3, v2), (4, v32), (5, (.int .i64 k6))]) hF6 (ew_then (cw_seq (cw_region (lw_op Z Z Z (ow_move Z Z (lw_op Z Z Z (ow_assign Z Z (lw_nil (ew_then (cw_ret ?_))))))))))
  obtain rfl := Option.some.inj h
  exact ew_ret (res1 Z (.tmp Z)) ⟨_, Z, (hw12.freezeBack hC13 hO), hC13.bx⟩

theorem w_spec_RulesetValid {w : World} {M : Nat → Prop} (hG : ARep (RArr 4 RShape) w M shapes ⟨0, 0, none⟩) (hO : ∀ b, M b → b < w.heap.size) {v0p : Value} {a_s : Ruleset} (h0 : VRep RRuleset w M a_s v0p) {r : Bool} (h : F.spec_RulesetValid a_s = some r) :
  Calls Tryd.prog 26 [v0p].toArray w fun e w' => ∃ v, e = .returned v ∧ VRep RBool w' M r v ∧ BX No w w' := by
 have hC : Cx No w M w M := Cx.start hO (fun _ e => e.elim)
 refine walk (N := 55) Tryd.func26 Z Tryd.ntmps26 Z (cw_seq (cw_region (lw_op Z Z Z (ow_box (R := RRuleset) Z Z h0 hC fun p1 w1 hp1 hb1 hl1 hC1 => lw_op Z Z Z (ow_assign Z Z (lw_nil (ew_then (cw_seq (cw_seq (cw_region (lw_op Z Z Z (ow_assign Z Z (lw_nil (ew_then ?_))))))))))))))
 replace h := bind_some h
 obtain ⟨lr1, hlr1, h⟩ := h
 refine cw_for hlr1 (fun s a w' => ∃ (M' : Nat → Prop), Fits 55 [(1, (.pointer (some p1))), (3, (.int .i64 s))] a ∧ Le w1 M w' M' ∧ Cx No w M w' M') ?_ ?_ ?_
 ·
  intro a ha
  exact ⟨M, ha.sub ⟨Z, Z, trivial⟩, Le.refl _ _, hC1⟩
 ·
  rintro k1 a w2 sr1 ⟨M1, hF1, hl2, hC2⟩ hb2 hR1
  refine cw_at (E := [(1, (.pointer (some p1))), (3, (.int .i64 k1))]) hF1 (cw_seq (cw_seq (cw_region (lw_op Z Z Z (ow_move Z Z (lw_op Z Z Z (ow_fieldAddr Z Z Tryd.underlying45 Z (Tryd.sizeOf43 _) (lw_op Z Z Z (ow_load (R := (RSlice (RSlice RRule))) Z Z (ARep.mono hl2 (hp1.fld fld_Ruleset_Chains)) (Tryd.sizeOf43 _) (Tryd.isAgg43 _) fun v2 hv2 => lw_op Z Z Z (ow_len Z Z hv2 Tryd.underlying43 Z (lw_op Z Z Z (ow_lss Z Z Z fun bb1 hbb1 => lw_nil (ew_then ?_)))))))))))))
  replace hb2 := cond_some hb2
  rcases hb2 with ⟨hc1, hb2⟩ | ⟨hc1, hb2⟩
  ·
   obtain rfl := hbb1.trans hc1
   refine cw_true Z (cw_skip (ew_then (cw_seq (cw_block (cw_seq (cw_seq (cw_region (lw_op Z Z Z (ow_fieldAddr Z Z Tryd.underlying45 Z (Tryd.sizeOf43 _) (lw_op Z Z Z (ow_load (R := (RSlice (RSlice RRule))) Z Z (ARep.mono hl2 (hp1.fld fld_Ruleset_Chains)) (Tryd.sizeOf43 _) (Tryd.isAgg43 _) fun v3 hv3 => lw_op Z Z Z (ow_move Z Z ?_))))))))))))
   replace hb2 := bind_some hb2
   obtain ⟨x1, hx1, hb2⟩ := hb2
   refine lw_op Z Z Z (ow_indexSlice (R := (RSlice RRule)) Z Z Z hv3 Tryd.underlying43 (Tryd.sizeOf36 _) hx1 fun p2 hp2 => lw_op Z Z Z (ow_load (R := (RSlice RRule)) Z Z hp2 (Tryd.sizeOf36 _) (Tryd.isAgg36 _) fun v4 hv4 => ?_))
   replace hb2 := bind_some hb2
   obtain ⟨x2, hx2, hb2⟩ := hb2
   refine lw_op Z Z Z (ow_call Z Z Tryd.call69 (w_spec_RulesValid (hG.mono (hl1.trans hl2)) hC2.old hv4 hx2) fun v5 w3 hv5 => ?_)
   obtain ⟨hv5, hb3⟩ := hv5
   have hl3 := Le.no M1 hb3
   have hC3 := hC2.no hb3
   obtain rfl := vbool_eq hv5
   refine lw_op Z Z Z (ow_not Z Z (lw_nil (ew_then ?_)))
   replace hb2 := cond_some hb2
   rcases hb2 with ⟨hc2, hb2⟩ | ⟨hc2, hb2⟩
   ·
    subst hc2
    refine cw_false Z (cw_skip (ew_then (cw_seq (cw_region (lw_op Z Z Z (ow_assign Z Z (lw_nil (ew_then ?_))))))))
    replace hb2 := bind_some hb2
    obtain ⟨lr2, hlr2, hb2⟩ := hb2
    refine cw_for hlr2 (fun s a w' => ∃ (M' : Nat → Prop), Fits 55 [(1, (.pointer (some p1))), (3, (.int .i64 k1)), (4, (.int .i64 s))] a ∧ Le w3 M1 w' M' ∧ Cx No w M w' M') ?_ ?_ ?_
    ·
     intro a ha
     exact ⟨M1, ha.sub ⟨Z, Z, Z, trivial⟩, Le.refl _ _, hC3⟩
    ·
     rintro k2 a w4 sr2 ⟨M2, hF2, hl4, hC4⟩ hb4 hR2
     refine cw_at (E := [(1, (.pointer (some p1))), (3, (.int .i64 k1)), (4, (.int .i64 k2))]) hF2 (cw_seq (cw_seq (cw_region (lw_op Z Z Z (ow_move Z Z (lw_op Z Z Z (ow_fieldAddr Z Z Tryd.underlying45 Z (Tryd.sizeOf43 _) ?_)))))))
     have lz1 := ((hl2.trans hl3).trans hl4)
     refine lw_op Z Z Z (ow_load (R := (RSlice (RSlice RRule))) Z Z (ARep.mono lz1 (hp1.fld fld_Ruleset_Chains)) (Tryd.sizeOf43 _) (Tryd.isAgg43 _) fun v7 hv7 => lw_op Z Z Z (ow_move Z Z (lw_op Z Z Z (ow_indexSlice (R := (RSlice RRule)) Z Z Z hv7 Tryd.underlying43 (Tryd.sizeOf36 _) hx1 fun p3 hp3 => lw_op Z Z Z (ow_load (R := (RSlice RRule)) Z Z hp3 (Tryd.sizeOf36 _) (Tryd.isAgg36 _) fun v8 hv8 => lw_op Z Z Z (ow_len Z Z hv8 Tryd.underlying36 Z (lw_op Z Z Z (ow_lss Z Z Z fun bb2 hbb2 => lw_nil (ew_then ?_)))))))))
     replace hb4 := cond_some hb4
     rcases hb4 with ⟨hc3, hb4⟩ | ⟨hc3, hb4⟩
     ·
      obtain rfl := hbb2.trans hc3
      refine cw_true Z (cw_skip (ew_then (cw_seq (cw_block (cw_seq ?_)))))
      replace hb4 := bind_some hb4
      obtain ⟨x3, hx3, hb4⟩ := hb4
      refine cw_sub (E' := [(1, (.pointer (some p1))), (3, (.int .i64 k1)), (4, (.int .i64 k2))]) ⟨Z, Z, Z, trivial⟩ (cw_drawQ 12 [PA (RSlice (RSlice RRule)) M2 a_s.Chains, PV (RSlice (RSlice RRule)) M2 a_s.Chains, PEq (.int .i64 k1), PA (RSlice RRule) M2 x1, PV (RSlice RRule) M2 x1, PEq (.int .i64 k2), PA RRule M2 x3, PA RInt M2 x3.Chain, PEq (.int .i64 x3.Chain), PA (RSlice (RSlice RRule)) M2 a_s.Chains, PV (RSlice (RSlice RRule)) M2 a_s.Chains, PEq (.int .i64 (a_s.Chains.length : Int))] (by kernel_rfl) Z (by kernel_rfl) ⟨PA.mono _ _ _, PV.mono _ _ _, PEq.mono _, PA.mono _ _ _, PV.mono _ _ _, PEq.mono _, PA.mono _ _ _, PA.mono _ _ _, PEq.mono _, PA.mono _ _ _, PV.mono _ _ _, PEq.mono _, trivial⟩ ⟨?_, ?_, ?_, ?_, ?_, ?_, ?_, ?_, ?_, ?_, ?_, ?_, trivial⟩ ?_)
      ·
       intro w5 D hS1 hd1
       have hl5 := Le.no M2 hS1
       exact dg_sub (E' := [(1, (.pointer (some p1)))]) ⟨Z, trivial⟩ (dg_plain Z (ow_fieldAddr Z Z Tryd.underlying45 Z (Tryd.sizeOf43 _) ⟨BX.refl _ _, ⟨_, Z, (ARep.mono (lz1.trans hl5) (hp1.fld fld_Ruleset_Chains))⟩⟩))
      ·
       intro w6 D hS2 hd2
       have d1 : PA (RSlice (RSlice RRule)) M2 a_s.Chains (D 0) w6 := dpA hd2 0 Z
       obtain ⟨p6, e1, ha1⟩ := d1
       exact dg_sub (E' := [(29, (.pointer (some p6)))]) ⟨(congrArg some e1), trivial⟩ (dg_plain Z (ow_load (R := (RSlice (RSlice RRule))) Z Z ha1 (Tryd.sizeOf43 _) (Tryd.isAgg43 _) fun v13 hv13 => ⟨BX.refl _ _, hv13⟩))
      ·
       intro w7 D hS3 hd3
       exact dg_sub (E' := [(3, (.int .i64 k1))]) ⟨Z, trivial⟩ (dg_plain Z (ow_move Z Z ⟨BX.refl _ _, Z⟩))
      ·
       intro w8 D hS4 hd4
       have d2 : PV (RSlice (RSlice RRule)) M2 a_s.Chains (D 1) w8 := dpA hd4 1 Z
       generalize hq1 : (D 1) = v14 at d2
       exact dg_sub (E' := [(30, v14), (31, (.int .i64 k1))]) ⟨(congrArg some hq1), (dpE hd4 2 Z Z), trivial⟩ (dg_plain Z (ow_indexSlice (R := (RSlice RRule)) Z Z Z d2 Tryd.underlying43 (Tryd.sizeOf36 _) hx1 fun p7 hp7 => ⟨BX.refl _ _, ⟨_, Z, hp7⟩⟩))
      ·
       intro w9 D hS5 hd5
       have d4 : PA (RSlice RRule) M2 x1 (D 3) w9 := dpA hd5 3 Z
       obtain ⟨p8, e2, ha2⟩ := d4
       exact dg_sub (E' := [(32, (.pointer (some p8)))]) ⟨(congrArg some e2), trivial⟩ (dg_plain Z (ow_load (R := (RSlice RRule)) Z Z ha2 (Tryd.sizeOf36 _) (Tryd.isAgg36 _) fun v15 hv15 => ⟨BX.refl _ _, hv15⟩))
      ·
       intro w10 D hS6 hd6
       exact dg_sub (E' := [(4, (.int .i64 k2))]) ⟨Z, trivial⟩ (dg_plain Z (ow_move Z Z ⟨BX.refl _ _, Z⟩))
      ·
       intro w11 D hS7 hd7
       have d5 : PV (RSlice RRule) M2 x1 (D 4) w11 := dpA hd7 4 Z
       generalize hq2 : (D 4) = v16 at d5
       exact dg_sub (E' := [(33, v16), (34, (.int .i64 k2))]) ⟨(congrArg some hq2), (dpE hd7 5 Z Z), trivial⟩ (dg_plain Z (ow_indexSlice (R := RRule) Z Z Z d5 Tryd.underlying36 (Tryd.sizeOf42 _) hx3 fun p9 hp9 => ⟨BX.refl _ _, ⟨_, Z, hp9⟩⟩))
      ·
       intro w12 D hS8 hd8
       have d7 : PA RRule M2 x3 (D 6) w12 := dpA hd8 6 Z
       obtain ⟨p10, e3, ha3⟩ := d7
       exact dg_sub (E' := [(35, (.pointer (some p10)))]) ⟨(congrArg some e3), trivial⟩ (dg_plain Z (ow_fieldAddr Z Z Tryd.underlying42 Z (Tryd.sizeOf3 _) ⟨BX.refl _ _, ⟨_, Z, (ha3.fld fld_Rule_Chain)⟩⟩))
      ·
       intro w13 D hS9 hd9
       have d8 : PA RInt M2 x3.Chain (D 7) w13 := dpA hd9 7 Z
       obtain ⟨p11, e4, ha4⟩ := d8
       refine dg_sub (E' := [(36, (.pointer (some p11)))]) ⟨(congrArg some e4), trivial⟩ (dg_plain Z (ow_load (R := RInt) Z Z ha4 (Tryd.sizeOf3 _) (Tryd.isAgg3 _) fun v17 hv17 => ?_))
       obtain rfl := vint_eq hv17
       exact ⟨BX.refl _ _, Z⟩
      ·
       intro w14 D hS10 hd10
       have hl14 := Le.no M2 hS10
       exact dg_sub (E' := [(1, (.pointer (some p1)))]) ⟨Z, trivial⟩ (dg_plain Z (ow_fieldAddr Z Z Tryd.underlying45 Z (Tryd.sizeOf43 _) ⟨BX.refl _ _, ⟨_, Z, (ARep.mono (lz1.trans hl14) (hp1.fld fld_Ruleset_Chains))⟩⟩))
      ·
       intro w15 D hS11 hd11
       have d9 : PA (RSlice (RSlice RRule)) M2 a_s.Chains (D 9) w15 := dpA hd11 9 Z
       obtain ⟨p12, e5, ha5⟩ := d9
       exact dg_sub (E' := [(38, (.pointer (some p12)))]) ⟨(congrArg some e5), trivial⟩ (dg_plain Z (ow_load (R := (RSlice (RSlice RRule))) Z Z ha5 (Tryd.sizeOf43 _) (Tryd.isAgg43 _) fun v18 hv18 => ⟨BX.refl _ _, hv18⟩))
      ·
       intro w16 D hS12 hd12
       have d10 : PV (RSlice (RSlice RRule)) M2 a_s.Chains (D 10) w16 := dpA hd12 10 Z
       generalize hq3 : (D 10) = v19 at d10
       exact dg_sub (E' := [(39, v19)]) ⟨(congrArg some hq3), trivial⟩ (dg_plain Z (ow_len Z Z d10 Tryd.underlying43 Z ⟨BX.refl _ _, Z⟩))
      ·
       intro w17 D hS13 hd13
       have hl17 := Le.no M2 hS13
       have hC17 := hC4.no hS13
       refine lw_sub (E' := [(37, (.int .i64 x3.Chain)), (40, (.int .i64 (a_s.Chains.length : Int))), (1, (.pointer (some p1))), (3, (.int .i64 k1)), (4, (.int .i64 k2))]) ⟨(dpE hd13 8 Z Z), (dpE hd13 11 Z Z), Z, Z, Z, trivial⟩ (lw_op Z Z Z (ow_geq Z Z Z fun bb3 hbb3 => lw_nil (ew_then ?_)))
       replace hb4 := cond_some hb4
       rcases hb4 with ⟨hc4, hb4⟩ | ⟨hc4, hb4⟩
       ·
        obtain rfl := hbb3.trans hc4
        refine cw_true Z (cw_seq (cw_region (lw_op Z Z Z (ow_assign Z Z (lw_nil (ew_then (cw_ret (ew_blockR (ew_thenR (ew_thenR (ew_blockR (ew_brkR (ew_blockR (ew_thenR (ew_thenR (ew_blockR (ew_brkR (ew_thenR ?_))))))))))))))))))
        have e6 := hR2 _ (Option.some.inj hb4).symm
        subst e6
        have e7 := hR1 _ (Option.some.inj hb2).symm
        subst e7
        obtain rfl := Option.some.inj h
        exact ew_ret (res1 Z (.tmp Z)) ⟨_, Z, ((vbool _)), hC17.bx⟩
       ·
        obtain rfl := hbb3.trans hc4
        exact cw_false Z (cw_skip (ew_blockN (ew_then (cw_region (lw_op Z Z Z (ow_move Z Z (lw_op Z Z Z (ow_add Z Z Z (lw_op Z Z Z (ow_assign Z Z (lw_nil (ew_nxt (W (k2 + 1)) hb4 fun a ha => ⟨M2, (ha.sub ⟨Z, Z, Z, trivial⟩), (hl4.trans hl17), hC17⟩))))))))))))
     ·
      obtain rfl := hbb2.trans hc3
      exact cw_false Z (cw_exit (ew_thenX (ew_thenX (ew_blockX (ew_brk k2 hb4 fun a ha => ⟨M2, (ha.sub ⟨Z, Z, Z, trivial⟩), hl4, hC4⟩)))))
    ·
     rintro k3 a w18 hlr3 ⟨M3, hF3, hl18, hC18⟩
     subst hlr3
     refine ew_at (E := [(1, (.pointer (some p1))), (3, (.int .i64 k1)), (4, (.int .i64 k3))]) hF3 (ew_blockN (ew_then (cw_region (lw_op Z Z Z (ow_move Z Z (lw_op Z Z Z (ow_add Z Z Z (lw_op Z Z Z (ow_assign Z Z (lw_nil ?_))))))))))
     have lz3 := ((hl2.trans hl3).trans hl18)
     exact ew_nxt (W (k1 + 1)) hb2 fun a ha => ⟨M3, (ha.sub ⟨Z, Z, trivial⟩), lz3, hC18⟩
   ·
    subst hc2
    refine cw_true Z (cw_seq (cw_region (lw_op Z Z Z (ow_assign Z Z (lw_nil (ew_then (cw_ret (ew_thenR (ew_blockR (ew_thenR (ew_thenR (ew_blockR (ew_brkR (ew_thenR ?_))))))))))))))
    have e8 := hR1 _ (Option.some.inj hb2).symm
    subst e8
    obtain rfl := Option.some.inj h
    exact ew_ret (res1 Z (.tmp Z)) ⟨_, Z, ((vbool _)), hC3.bx⟩
  ·
   obtain rfl := hbb1.trans hc1
   exact cw_false Z (cw_exit (ew_thenX (ew_thenX (ew_blockX (ew_brk k1 hb2 fun a ha => ⟨M1, (ha.sub ⟨Z, Z, trivial⟩), hl2, hC2⟩)))))
 ·
  rintro k4 a w19 hlr4 ⟨M4, hF4, hl19, hC19⟩
  subst hlr4
  refine ew_at (E := [(1, (.pointer (some p1))), (3, (.int .i64 k4))]) hF4 (ew_then (cw_seq ?_))
  replace h := bind_some h
  obtain ⟨x4, hx4, h⟩ := h
  replace h := cond_some h
  rcases h with ⟨hc5, h⟩ | ⟨hc5, h⟩
  ·
   subst hc5
   replace h := bind_some h
   obtain ⟨x5, hx5, h⟩ := h
   have lz4 := (hl1.trans hl19)
   refine cw_sub (E' := [(1, (.pointer (some p1)))]) ⟨Z, trivial⟩ (cw_drawQ 11 [PA (RSlice (RSlice RRule)) M4 a_s.Chains, PV (RSlice (RSlice RRule)) M4 a_s.Chains, PEq (.int .i64 (a_s.Chains.length : Int)), PEq (.bool true), PEq (.bool true), PV RRuleset M4 a_s, PV (RSlice RInt) M4 x5, PEq (.int .i64 (x5.length : Int)), PA (RSlice (RSlice RRule)) M4 a_s.Chains, PV (RSlice (RSlice RRule)) M4 a_s.Chains, PEq (.int .i64 (a_s.Chains.length : Int))] (by kernel_rfl) Z (by kernel_rfl) ⟨PA.mono _ _ _, PV.mono _ _ _, PEq.mono _, PEq.mono _, PEq.mono _, PV.mono _ _ _, PV.mono _ _ _, PEq.mono _, PA.mono _ _ _, PV.mono _ _ _, PEq.mono _, trivial⟩ ⟨?_, ?_, ?_, ?_, ?_, ?_, ?_, ?_, ?_, ?_, ?_, trivial⟩ ?_)
   ·
    intro w22 D hS14 hd14
    have hl22 := Le.no M4 hS14
    exact dg_sub (E' := [(1, (.pointer (some p1)))]) ⟨Z, trivial⟩ (dg_plain Z (ow_fieldAddr Z Z Tryd.underlying45 Z (Tryd.sizeOf43 _) ⟨BX.refl _ _, ⟨_, Z, (ARep.mono (hl19.trans hl22) (hp1.fld fld_Ruleset_Chains))⟩⟩))
   ·
    intro w23 D hS15 hd15
    have d23 : PA (RSlice (RSlice RRule)) M4 a_s.Chains (D 0) w23 := dpA hd15 0 Z
    obtain ⟨p13, e9, ha6⟩ := d23
    exact dg_sub (E' := [(42, (.pointer (some p13)))]) ⟨(congrArg some e9), trivial⟩ (dg_plain Z (ow_load (R := (RSlice (RSlice RRule))) Z Z ha6 (Tryd.sizeOf43 _) (Tryd.isAgg43 _) fun v27 hv27 => ⟨BX.refl _ _, hv27⟩))
   ·
    intro w24 D hS16 hd16
    have d24 : PV (RSlice (RSlice RRule)) M4 a_s.Chains (D 1) w24 := dpA hd16 1 Z
    generalize hq4 : (D 1) = v28 at d24
    exact dg_sub (E' := [(43, v28)]) ⟨(congrArg some hq4), trivial⟩ (dg_plain Z (ow_len Z Z d24 Tryd.underlying43 Z ⟨BX.refl _ _, Z⟩))
   ·
    intro w25 D hS17 hd17
    have hl25 := Le.no M4 hS17
    have hC25 := hC19.no hS17
    refine dg_sub (E' := [(44, (.int .i64 (a_s.Chains.length : Int)))]) ⟨(dpE hd17 2 Z Z), trivial⟩ (dg_plain Z (ow_call Z Z Tryd.call70 (w_spec_l1In (hG.mono (lz4.trans hl25)) hC25.old hx4) fun v29 w26 hv29 => ?_))
    obtain ⟨hv29, hb7⟩ := hv29
    obtain rfl := vbool_eq hv29
    exact ⟨hb7, Z⟩
   ·
    intro w27 D hS18 hd18
    exact dg_sub (E' := [(45, (.bool true))]) ⟨(dpE hd18 3 Z Z), trivial⟩ (dg_plain Z (ow_move Z Z ⟨BX.refl _ _, Z⟩))
   ·
    intro w28 D hS19 hd19
    have hl28 := Le.no M4 hS19
    exact dg_sub (E' := [(46, (.bool true)), (1, (.pointer (some p1)))]) ⟨(dpE hd19 4 Z Z), Z, trivial⟩ (dg_on Z Z Z Z (ow_load (R := RRuleset) Z Z (ARep.mono (hl19.trans hl28) hp1) (Tryd.sizeOf45 _) (Tryd.isAgg45 _) fun v30 hv30 => ⟨BX.refl _ _, hv30⟩))
   ·
    intro w29 D hS20 hd20
    have hl29 := Le.no M4 hS20
    have hC29 := hC19.no hS20
    have d29 : PV RRuleset M4 a_s (D 5) w29 := dpA hd20 5 Z
    generalize hq5 : (D 5) = v31 at d29
    refine dg_sub (E' := [(47, v31), (46, (.bool true))]) ⟨(congrArg some hq5), (dpE hd20 4 Z Z), trivial⟩ (dg_on Z Z Z Z (ow_call Z Z Tryd.call71 (w_spec_l8Order (hG.mono (lz4.trans hl29)) hC29.old d29 hx5) fun v32 w30 hv32 => ?_))
    obtain ⟨hv32, hb8⟩ := hv32
    exact ⟨hb8, hv32⟩
   ·
    intro w31 D hS21 hd21
    have d32 : PV (RSlice RInt) M4 x5 (D 6) w31 := dpA hd21 6 Z
    generalize hq6 : (D 6) = v33 at d32
    exact dg_sub (E' := [(48, v33), (46, (.bool true))]) ⟨(congrArg some hq6), (dpE hd21 4 Z Z), trivial⟩ (dg_on Z Z Z Z (ow_len Z Z d32 Tryd.underlying52 Z ⟨BX.refl _ _, Z⟩))
   ·
    intro w32 D hS22 hd22
    have hl32 := Le.no M4 hS22
    exact dg_sub (E' := [(46, (.bool true)), (1, (.pointer (some p1)))]) ⟨(dpE hd22 4 Z Z), Z, trivial⟩ (dg_on Z Z Z Z (ow_fieldAddr Z Z Tryd.underlying45 Z (Tryd.sizeOf43 _) ⟨BX.refl _ _, ⟨_, Z, (ARep.mono (hl19.trans hl32) (hp1.fld fld_Ruleset_Chains))⟩⟩))
   ·
    intro w33 D hS23 hd23
    have d35 : PA (RSlice (RSlice RRule)) M4 a_s.Chains (D 8) w33 := dpA hd23 8 Z
    obtain ⟨p14, e10, ha7⟩ := d35
    exact dg_sub (E' := [(50, (.pointer (some p14))), (46, (.bool true))]) ⟨(congrArg some e10), (dpE hd23 4 Z Z), trivial⟩ (dg_on Z Z Z Z (ow_load (R := (RSlice (RSlice RRule))) Z Z ha7 (Tryd.sizeOf43 _) (Tryd.isAgg43 _) fun v34 hv34 => ⟨BX.refl _ _, hv34⟩))
   ·
    intro w34 D hS24 hd24
    have d37 : PV (RSlice (RSlice RRule)) M4 a_s.Chains (D 9) w34 := dpA hd24 9 Z
    generalize hq7 : (D 9) = v35 at d37
    exact dg_sub (E' := [(51, v35), (46, (.bool true))]) ⟨(congrArg some hq7), (dpE hd24 4 Z Z), trivial⟩ (dg_on Z Z Z Z (ow_len Z Z d37 Tryd.underlying43 Z ⟨BX.refl _ _, Z⟩))
   ·
    intro w35 D hS25 hd25
    have hC35 := hC19.no hS25
    refine lw_sub (E' := [(46, (.bool true)), (49, (.int .i64 (x5.length : Int))), (52, (.int .i64 (a_s.Chains.length : Int))), (1, (.pointer (some p1)))]) ⟨(dpE hd25 4 Z Z), (dpE hd25 7 Z Z), (dpE hd25 10 Z Z), Z, trivial⟩ (lw_on Z Z Z Z Z Z (ow_eqlI Z Z Z fun bb4 hbb4 => lw_op Z Z Z (ow_pickT Z Z Z (lw_op Z Z Z (ow_assign Z Z (lw_nil (ew_then (cw_ret ?_))))))))
    obtain rfl := Option.some.inj h
    exact ew_ret (res1 Z (.tmp Z)) ⟨_, Z, ((vbool_of hbb4)), hC35.bx⟩
  ·
   subst hc5
   have lz5 := (hl1.trans hl19)
   refine cw_sub (E' := [(1, (.pointer (some p1)))]) ⟨Z, trivial⟩ (cw_drawQ 11 [PA (RSlice (RSlice RRule)) M4 a_s.Chains, PV (RSlice (RSlice RRule)) M4 a_s.Chains, PEq (.int .i64 (a_s.Chains.length : Int)), PEq (.bool false), PEq (.bool false), PEq undef, PEq undef, PEq undef, PEq undef, PEq undef, PEq undef] (by kernel_rfl) Z (by kernel_rfl) ⟨PA.mono _ _ _, PV.mono _ _ _, PEq.mono _, PEq.mono _, PEq.mono _, PEq.mono _, PEq.mono _, PEq.mono _, PEq.mono _, PEq.mono _, PEq.mono _, trivial⟩ ⟨?_, ?_, ?_, ?_, ?_, ?_, ?_, ?_, ?_, ?_, ?_, trivial⟩ ?_)
   ·
    intro w36 D hS26 hd26
    have hl36 := Le.no M4 hS26
    exact dg_sub (E' := [(1, (.pointer (some p1)))]) ⟨Z, trivial⟩ (dg_plain Z (ow_fieldAddr Z Z Tryd.underlying45 Z (Tryd.sizeOf43 _) ⟨BX.refl _ _, ⟨_, Z, (ARep.mono (hl19.trans hl36) (hp1.fld fld_Ruleset_Chains))⟩⟩))
   ·
    intro w37 D hS27 hd27
    have d50 : PA (RSlice (RSlice RRule)) M4 a_s.Chains (D 0) w37 := dpA hd27 0 Z
    obtain ⟨p15, e11, ha8⟩ := d50
    exact dg_sub (E' := [(42, (.pointer (some p15)))]) ⟨(congrArg some e11), trivial⟩ (dg_plain Z (ow_load (R := (RSlice (RSlice RRule))) Z Z ha8 (Tryd.sizeOf43 _) (Tryd.isAgg43 _) fun v36 hv36 => ⟨BX.refl _ _, hv36⟩))
   ·
    intro w38 D hS28 hd28
    have d51 : PV (RSlice (RSlice RRule)) M4 a_s.Chains (D 1) w38 := dpA hd28 1 Z
    generalize hq8 : (D 1) = v37 at d51
    exact dg_sub (E' := [(43, v37)]) ⟨(congrArg some hq8), trivial⟩ (dg_plain Z (ow_len Z Z d51 Tryd.underlying43 Z ⟨BX.refl _ _, Z⟩))
   ·
    intro w39 D hS29 hd29
    have hl39 := Le.no M4 hS29
    have hC39 := hC19.no hS29
    refine dg_sub (E' := [(44, (.int .i64 (a_s.Chains.length : Int)))]) ⟨(dpE hd29 2 Z Z), trivial⟩ (dg_plain Z (ow_call Z Z Tryd.call70 (w_spec_l1In (hG.mono (lz5.trans hl39)) hC39.old hx4) fun v38 w40 hv38 => ?_))
    obtain ⟨hv38, hb9⟩ := hv38
    obtain rfl := vbool_eq hv38
    exact ⟨hb9, Z⟩
   ·
    intro w41 D hS30 hd30
    exact dg_sub (E' := [(45, (.bool false))]) ⟨(dpE hd30 3 Z Z), trivial⟩ (dg_plain Z (ow_move Z Z ⟨BX.refl _ _, Z⟩))
   ·
    intro w42 D hS31 hd31
    exact dg_sub (E' := [(46, (.bool false)), (1, (.pointer (some p1)))]) ⟨(dpE hd31 4 Z Z), Z, trivial⟩ (dg_off Z Z Z Z ⟨BX.refl _ _, Z⟩)
   ·
    intro w43 D hS32 hd32
    exact dg_sub (E' := [(47, undef), (46, (.bool false))]) ⟨(dpE hd32 5 Z Z), (dpE hd32 4 Z Z), trivial⟩ (dg_off Z Z Z Z ⟨BX.refl _ _, Z⟩)
   ·
    intro w44 D hS33 hd33
    exact dg_sub (E' := [(48, undef), (46, (.bool false))]) ⟨(dpE hd33 6 Z Z), (dpE hd33 4 Z Z), trivial⟩ (dg_off Z Z Z Z ⟨BX.refl _ _, Z⟩)
   ·
    intro w45 D hS34 hd34
    exact dg_sub (E' := [(46, (.bool false)), (1, (.pointer (some p1)))]) ⟨(dpE hd34 4 Z Z), Z, trivial⟩ (dg_off Z Z Z Z ⟨BX.refl _ _, Z⟩)
   ·
    intro w46 D hS35 hd35
    exact dg_sub (E' := [(50, undef), (46, (.bool false))]) ⟨(dpE hd35 8 Z Z), (dpE hd35 4 Z Z), trivial⟩ (dg_off Z Z Z Z ⟨BX.refl _ _, Z⟩)
   ·
    intro w47 D hS36 hd36
    exact dg_sub (E' := [(51, undef), (46, (.bool false))]) ⟨(dpE hd36 9 Z Z), (dpE hd36 4 Z Z), trivial⟩ (dg_off Z Z Z Z ⟨BX.refl _ _, Z⟩)
   ·
    intro w48 D hS37 hd37
    have hC48 := hC19.no hS37
    refine lw_sub (E' := [(46, (.bool false)), (49, undef), (52, undef), (1, (.pointer (some p1)))]) ⟨(dpE hd37 4 Z Z), (dpE hd37 7 Z Z), (dpE hd37 10 Z Z), Z, trivial⟩ (lw_off Z Z Z Z Z Z (lw_op Z Z Z (ow_pickF Z Z Z (lw_op Z Z Z (ow_assign Z Z (lw_nil (ew_then (cw_ret ?_))))))))
    obtain rfl := Option.some.inj h
    exact ew_ret (res1 Z (.tmp Z)) ⟨_, Z, ((vbool _)), hC48.bx⟩

theorem w_spec_PacketValid {w : World} {M : Nat → Prop} (hG : ARep (RArr 4 RShape) w M shapes ⟨0, 0, none⟩) (hO : ∀ b, M b → b < w.heap.size) {v0p : Value} {a_p : Packet} (h0 : VRep RPacket w M a_p v0p) {r : Bool} (h : F.spec_PacketValid a_p = some r) :
  Calls Tryd.prog 41 [v0p].toArray w fun e w' => ∃ v, e = .returned v ∧ VRep RBool w' M r v ∧ BX No w w' := by
 have hC : Cx No w M w M := Cx.start hO (fun _ e => e.elim)
 refine walk (N := 21) Tryd.func41 Z Tryd.ntmps41 Z (cw_seq (cw_region (lw_op Z Z Z (ow_box (R := RPacket) Z Z h0 hC fun p1 w1 hp1 hb1 hl1 hC1 => lw_op Z Z Z (ow_assign Z Z (lw_nil (ew_then (cw_seq (cw_region (lw_op Z Z Z (ow_fieldAddr Z Z Tryd.underlying38 Z (Tryd.sizeOf3 _) (lw_op Z Z Z (ow_load (R := RInt) Z Z (hp1.fld fld_Packet_From) (Tryd.sizeOf3 _) (Tryd.isAgg3 _) fun v1 hv1 => ?_)))))))))))))
 obtain rfl := vint_eq hv1
 replace h := bind_some h
 obtain ⟨x1, hx1, h⟩ := h
 refine lw_op Z Z Z (ow_call Z Z Tryd.call70 (w_spec_l1In (hG.mono hl1) hC1.old hx1) fun v2 w2 hv2 => ?_)
 obtain ⟨hv2, hb2⟩ := hv2
 have hl2 := Le.no M hb2
 have hC2 := hC1.no hb2
 obtain rfl := vbool_eq hv2
 refine lw_op Z Z Z (ow_move Z Z ?_)
 replace h := cond_some h
 rcases h with ⟨hc1, h⟩ | ⟨hc1, h⟩
 ·
  subst hc1
  refine lw_on Z Z Z Z Z Z (ow_fieldAddr Z Z Tryd.underlying38 Z (Tryd.sizeOf3 _) (lw_on Z Z Z Z Z Z (ow_load (R := RInt) Z Z (ARep.mono hl2 (hp1.fld fld_Packet_To)) (Tryd.sizeOf3 _) (Tryd.isAgg3 _) fun v3 hv3 => ?_)))
  obtain rfl := vint_eq hv3
  replace h := bind_some h
  obtain ⟨x2, hx2, h⟩ := h
  refine lw_on Z Z Z Z Z Z (ow_call Z Z Tryd.call70 (w_spec_l1In (hG.mono (hl1.trans hl2)) hC2.old hx2) fun v4 w3 hv4 => ?_)
  obtain ⟨hv4, hb3⟩ := hv4
  have hl3 := Le.no M hb3
  have hC3 := hC2.no hb3
  obtain rfl := vbool_eq hv4
  refine lw_op Z Z Z (ow_pickT Z Z Z (lw_op Z Z Z (ow_move Z Z ?_)))
  replace h := cond_some h
  rcases h with ⟨hc2, h⟩ | ⟨hc2, h⟩
  ·
   subst hc2
   refine lw_on Z Z Z Z Z Z (ow_fieldAddr Z Z Tryd.underlying38 Z (Tryd.sizeOf3 _) (lw_on Z Z Z Z Z Z (ow_load (R := RInt) Z Z (ARep.mono (hl2.trans hl3) (hp1.fld fld_Packet_Port)) (Tryd.sizeOf3 _) (Tryd.isAgg3 _) fun v5 hv5 => ?_)))
   obtain rfl := vint_eq hv5
   replace h := bind_some h
   obtain ⟨x3, hx3, h⟩ := h
   have lz1 := ((hl1.trans hl2).trans hl3)
   refine lw_on Z Z Z Z Z Z (ow_call Z Z Tryd.call70 (w_spec_l1In (hG.mono lz1) hC3.old hx3) fun v6 w4 hv6 => ?_)
   obtain ⟨hv6, hb4⟩ := hv6
   have hl4 := Le.no M hb4
   have hC4 := hC3.no hb4
   obtain rfl := vbool_eq hv6
   refine lw_op Z Z Z (ow_pickT Z Z Z (lw_op Z Z Z (ow_move Z Z ?_)))
   replace h := cond_some h
   rcases h with ⟨hc3, h⟩ | ⟨hc3, h⟩
   ·
    subst hc3
    refine lw_on Z Z Z Z Z Z (ow_fieldAddr Z Z Tryd.underlying38 Z (Tryd.sizeOf3 _) ?_)
    have lz2 := ((hl2.trans hl3).trans hl4)
    refine lw_on Z Z Z Z Z Z (ow_load (R := RInt) Z Z (ARep.mono lz2 (hp1.fld fld_Packet_Proto)) (Tryd.sizeOf3 _) (Tryd.isAgg3 _) fun v7 hv7 => ?_)
    obtain rfl := vint_eq hv7
    replace h := bind_some h
    obtain ⟨x4, hx4, h⟩ := h
    refine lw_on Z Z Z Z Z Z (ow_call Z Z Tryd.call70 (w_spec_l1In (hG.mono (lz1.trans hl4)) hC4.old hx4) fun v8 w5 hv8 => ?_)
    obtain ⟨hv8, hb5⟩ := hv8
    have hC5 := hC4.no hb5
    obtain rfl := vbool_eq hv8
    refine lw_op Z Z Z (ow_pickT Z Z Z (lw_op Z Z Z (ow_assign Z Z (lw_nil (ew_then (cw_ret ?_))))))
    obtain rfl := Option.some.inj h
    exact ew_ret (res1 Z (.tmp Z)) ⟨_, Z, ((vbool _)), hC5.bx⟩
   ·
    subst hc3
    refine lw_off Z Z Z Z Z Z (lw_off Z Z Z Z Z Z (lw_off Z Z Z Z Z Z (lw_op Z Z Z (ow_pickF Z Z Z (lw_op Z Z Z (ow_assign Z Z (lw_nil (ew_then (cw_ret ?_)))))))))
    obtain rfl := Option.some.inj h
    exact ew_ret (res1 Z (.tmp Z)) ⟨_, Z, ((vbool _)), hC4.bx⟩
  ·
   subst hc2
   refine lw_off Z Z Z Z Z Z (lw_off Z Z Z Z Z Z (lw_off Z Z Z Z Z Z (lw_op Z Z Z (ow_pickF Z Z Z (lw_op Z Z Z (ow_move Z Z (lw_off Z Z Z Z Z Z (lw_off Z Z Z Z Z Z (lw_off Z Z Z Z Z Z (lw_op Z Z Z (ow_pickF Z Z Z (lw_op Z Z Z (ow_assign Z Z (lw_nil (ew_then (cw_ret ?_))))))))))))))))
   obtain rfl := Option.some.inj h
   exact ew_ret (res1 Z (.tmp Z)) ⟨_, Z, ((vbool _)), hC3.bx⟩
 ·
  subst hc1
  refine lw_off Z Z Z Z Z Z (lw_off Z Z Z Z Z Z (lw_off Z Z Z Z Z Z (lw_op Z Z Z (ow_pickF Z Z Z (lw_op Z Z Z (ow_move Z Z (lw_off Z Z Z Z Z Z (lw_off Z Z Z Z Z Z (lw_off Z Z Z Z Z Z (lw_op Z Z Z (ow_pickF Z Z Z (lw_op Z Z Z (ow_move Z Z (lw_off Z Z Z Z Z Z (lw_off Z Z Z Z Z Z (lw_off Z Z Z Z Z Z (lw_op Z Z Z (ow_pickF Z Z Z (lw_op Z Z Z (ow_assign Z Z (lw_nil (ew_then (cw_ret ?_)))))))))))))))))))))))
  obtain rfl := Option.some.inj h
  exact ew_ret (res1 Z (.tmp Z)) ⟨_, Z, ((vbool _)), hC2.bx⟩

theorem w_spec_PacketField {w : World} {M : Nat → Prop} (hG : ARep (RArr 4 RShape) w M shapes ⟨0, 0, none⟩) (hO : ∀ b, M b → b < w.heap.size) {v0p : Value} {a_p : Packet} (h0 : VRep RPacket w M a_p v0p) {a_n : Int} {r : Int} (h : F.spec_PacketField a_p a_n = some r) :
  Calls Tryd.prog 114 [v0p, (.int .i64 a_n)].toArray w fun e w' => ∃ v, e = .returned v ∧ VRep RInt w' M r v ∧ BX No w w' := by
 have hC : Cx No w M w M := Cx.start hO (fun _ e => e.elim)
 refine walk (N := 25) Tryd.func114 Z Tryd.ntmps114 Z (cw_seq (cw_region (lw_op Z Z Z (ow_box (R := RPacket) Z Z h0 hC fun p1 w1 hp1 hb1 hl1 hC1 => lw_op Z Z Z (ow_assign Z Z (lw_nil (ew_then (cw_seq (cw_seq (cw_region (lw_op Z Z Z (ow_load (R := RPacket) Z Z hp1 (Tryd.sizeOf38 _) (Tryd.isAgg38 _) fun v1 hv1 => ?_))))))))))))
 replace h := bind_some h
 obtain ⟨x1, hx1, h⟩ := h
 refine lw_op Z Z Z (ow_call Z Z Tryd.call41 (w_spec_PacketValid (hG.mono hl1) hC1.old hv1 hx1) fun v2 w2 hv2 => ?_)
 obtain ⟨hv2, hb2⟩ := hv2
 have hl2 := Le.no M hb2
 have hC2 := hC1.no hb2
 obtain rfl := vbool_eq hv2
 refine lw_op Z Z Z (ow_not Z Z (lw_op Z Z Z (ow_move Z Z ?_)))
 replace h := cond_some h
 rcases h with ⟨hc1, h⟩ | ⟨hc1, h⟩
 ·
  subst hc1
  refine lw_on Z Z Z Z Z Z (ow_move Z Z ?_)
  replace h := bind_some h
  obtain ⟨x2, hx2, h⟩ := h
  refine lw_on Z Z Z Z Z Z (ow_call Z Z Tryd.call70 (w_spec_l1In (hG.mono (hl1.trans hl2)) hC2.old hx2) fun v3 w3 hv3 => ?_)
  obtain ⟨hv3, hb3⟩ := hv3
  have hl3 := Le.no M hb3
  have hC3 := hC2.no hb3
  obtain rfl := vbool_eq hv3
  refine lw_on Z Z Z Z Z Z (ow_not Z Z (lw_op Z Z Z (ow_pickF Z Z Z (lw_nil (ew_then ?_)))))
  replace h := cond_some h
  rcases h with ⟨hc2, h⟩ | ⟨hc2, h⟩
  ·
   subst hc2
   refine cw_false Z (cw_skip (ew_then (cw_seq (cw_region (lw_op Z Z Z (ow_fieldAddr Z Z Tryd.underlying38 Z (Tryd.sizeOf3 _) (lw_op Z Z Z (ow_load (R := RInt) Z Z (ARep.mono (hl2.trans hl3) (hp1.fld fld_Packet_From)) (Tryd.sizeOf3 _) (Tryd.isAgg3 _) fun v4 hv4 => ?_))))))))
   obtain rfl := vint_eq hv4
   refine lw_op Z Z Z (ow_fieldAddr Z Z Tryd.underlying38 Z (Tryd.sizeOf3 _) (lw_op Z Z Z (ow_load (R := RInt) Z Z (ARep.mono (hl2.trans hl3) (hp1.fld fld_Packet_To)) (Tryd.sizeOf3 _) (Tryd.isAgg3 _) fun v5 hv5 => ?_)))
   obtain rfl := vint_eq hv5
   refine lw_op Z Z Z (ow_fieldAddr Z Z Tryd.underlying38 Z (Tryd.sizeOf3 _) (lw_op Z Z Z (ow_load (R := RInt) Z Z (ARep.mono (hl2.trans hl3) (hp1.fld fld_Packet_Port)) (Tryd.sizeOf3 _) (Tryd.isAgg3 _) fun v6 hv6 => ?_)))
   obtain rfl := vint_eq hv6
   refine lw_op Z Z Z (ow_fieldAddr Z Z Tryd.underlying38 Z (Tryd.sizeOf3 _) (lw_op Z Z Z (ow_load (R := RInt) Z Z (ARep.mono (hl2.trans hl3) (hp1.fld fld_Packet_Proto)) (Tryd.sizeOf3 _) (Tryd.isAgg3 _) fun v7 hv7 => ?_)))
   obtain rfl := vint_eq hv7
   refine lw_op Z Z Z (ow_buildSlice (R := RInt) (xs := [a_p.From, a_p.To, a_p.Port, a_p.Proto]) (cs := #[(.int .i64 a_p.From), (.int .i64 a_p.To), (.int .i64 a_p.Port), (.int .i64 a_p.Proto)]) (e := 3) Z Z (by kernel_rfl) Z Z ⟨_, _, Z, (vint _).cells, _, _, Z, (vint _).cells, _, _, Z, (vint _).cells, _, _, Z, (vint _).cells, Z⟩ hC3 fun p2 w4 hw1 hb4 hl4 hC4 => lw_op Z Z Z (ow_move Z Z ?_))
   replace h := bind_some h
   obtain ⟨x3, hx3, h⟩ := h
   refine lw_op Z Z Z (ow_indexSlice (R := RInt) Z Z Z hw1 Tryd.underlying52 (Tryd.sizeOf3 _) hx3 fun p3 hp3 => lw_op Z Z Z (ow_load (R := RInt) Z Z hp3 (Tryd.sizeOf3 _) (Tryd.isAgg3 _) fun v8 hv8 => ?_))
   obtain rfl := vint_eq hv8
   refine lw_op Z Z Z (ow_assign Z Z (lw_nil (ew_then (cw_ret ?_))))
   obtain rfl := Option.some.inj h
   exact ew_ret (res1 Z (.tmp Z)) ⟨_, Z, ((vint _)), hC4.bx⟩
  ·
   subst hc2
   refine cw_true Z (cw_seq (cw_region (lw_op Z Z Z (ow_assign Z Z (lw_nil (ew_then (cw_ret (ew_thenR ?_))))))))
   obtain rfl := Option.some.inj h
   exact ew_ret (res1 Z (.tmp Z)) ⟨_, Z, ((vint _)), hC3.bx⟩
 ·
  subst hc1
  refine lw_off Z Z Z Z Z Z (lw_off Z Z Z Z Z Z (lw_off Z Z Z Z Z Z (lw_op Z Z Z (ow_pickT Z Z Z (lw_nil (ew_then (cw_true Z (cw_seq (cw_region (lw_op Z Z Z (ow_assign Z Z (lw_nil (ew_then (cw_ret (ew_thenR ?_)))))))))))))))
  obtain rfl := Option.some.inj h
  exact ew_ret (res1 Z (.tmp Z)) ⟨_, Z, ((vint _)), hC2.bx⟩

theorem w_spec_TestHolds {w : World} {M : Nat → Prop} (hG : ARep (RArr 4 RShape) w M shapes ⟨0, 0, none⟩) (hO : ∀ b, M b → b < w.heap.size) {v0p : Value} {a_t : Test} (h0 : VRep RTest w M a_t v0p) {v1p : Value} {a_p : Packet} (h1 : VRep RPacket w M a_p v1p) {r : Bool} (h : F.spec_TestHolds a_t a_p = some r) :
  Calls Tryd.prog 110 [v0p, v1p].toArray w fun e w' => ∃ v, e = .returned v ∧ VRep RBool w' M r v ∧ BX No w w' := by
 have hC : Cx No w M w M := Cx.start hO (fun _ e => e.elim)
 refine walk (N := 25) Tryd.func110 Z Tryd.ntmps110 Z (cw_seq (cw_region (lw_op Z Z Z (ow_box (R := RTest) Z Z h0 hC fun p1 w1 hp1 hb1 hl1 hC1 => lw_op Z Z Z (ow_box (R := RPacket) Z Z (VRep.mono hl1 h1) hC1 fun p2 w2 hp2 hb2 hl2 hC2 => lw_op Z Z Z (ow_assign Z Z (lw_nil (ew_then (cw_seq ?_)))))))))
 replace h := bind_some h
 obtain ⟨x1, hx1, h⟩ := h
 replace h := cond_some h
 rcases h with ⟨hc1, h⟩ | ⟨hc1, h⟩
 ·
  subst hc1
  replace h := bind_some h
  obtain ⟨x2, hx2, h⟩ := h
  replace h := cond_some h
  rcases h with ⟨hc2, h⟩ | ⟨hc2, h⟩
  ·
   subst hc2
   replace h := bind_some h
   obtain ⟨x3, hx3, h⟩ := h
   replace h := bind_some h
   obtain ⟨x4, hx4, h⟩ := h
   have lz1 := (hl1.trans hl2)
   refine cw_sub (E' := [(2, (.pointer (some p1))), (3, (.pointer (some p2))), (4, (.bool false))]) ⟨Z, Z, Z, trivial⟩ (cw_drawQ 18 [PV RTest M a_t, PEq (.bool true), PEq (.bool true), PV RPacket M a_p, PEq (.bool true), PEq (.bool true), PEq (.bool true), PV RPacket M a_p, PA RInt M a_t.Field, PEq (.int .i64 a_t.Field), PEq (.int .i64 x3), PA RInt M a_t.Lo, PEq (.int .i64 a_t.Lo), PA RInt M a_t.Hi, PEq (.int .i64 a_t.Hi), PEq (.bool x4), PA RBool M a_t.Not, PEq (.bool a_t.Not)] (by kernel_rfl) Z (by kernel_rfl) ⟨PV.mono _ _ _, PEq.mono _, PEq.mono _, PV.mono _ _ _, PEq.mono _, PEq.mono _, PEq.mono _, PV.mono _ _ _, PA.mono _ _ _, PEq.mono _, PEq.mono _, PA.mono _ _ _, PEq.mono _, PA.mono _ _ _, PEq.mono _, PEq.mono _, PA.mono _ _ _, PEq.mono _, trivial⟩ ⟨?_, ?_, ?_, ?_, ?_, ?_, ?_, ?_, ?_, ?_, ?_, ?_, ?_, ?_, ?_, ?_, ?_, ?_, trivial⟩ ?_)
   ·
    intro w7 D hS1 hd1
    have hl7 := Le.no M hS1
    exact dg_sub (E' := [(2, (.pointer (some p1)))]) ⟨Z, trivial⟩ (dg_plain Z (ow_load (R := RTest) Z Z (ARep.mono (hl2.trans hl7) hp1) (Tryd.sizeOf31 _) (Tryd.isAgg31 _) fun v12 hv12 => ⟨BX.refl _ _, hv12⟩))
   ·
    intro w8 D hS2 hd2
    have hl8 := Le.no M hS2
    have hC8 := hC2.no hS2
    have d1 : PV RTest M a_t (D 0) w8 := dpA hd2 0 Z
    generalize hq1 : (D 0) = v13 at d1
    refine dg_sub (E' := [(5, v13)]) ⟨(congrArg some hq1), trivial⟩ (dg_plain Z (ow_call Z Z Tryd.call91 (w_spec_TestValid (hG.mono (lz1.trans hl8)) hC8.old d1 hx1) fun v14 w9 hv14 => ?_))
    obtain ⟨hv14, hb7⟩ := hv14
    obtain rfl := vbool_eq hv14
    exact ⟨hb7, Z⟩
   ·
    intro w10 D hS3 hd3
    exact dg_sub (E' := [(6, (.bool true))]) ⟨(dpE hd3 1 Z Z), trivial⟩ (dg_plain Z (ow_move Z Z ⟨BX.refl _ _, Z⟩))
   ·
    intro w11 D hS4 hd4
    have hl11 := Le.no M hS4
    exact dg_sub (E' := [(7, (.bool true)), (3, (.pointer (some p2)))]) ⟨(dpE hd4 2 Z Z), Z, trivial⟩ (dg_on Z Z Z Z (ow_load (R := RPacket) Z Z (ARep.mono hl11 hp2) (Tryd.sizeOf38 _) (Tryd.isAgg38 _) fun v15 hv15 => ⟨BX.refl _ _, hv15⟩))
   ·
    intro w12 D hS5 hd5
    have hl12 := Le.no M hS5
    have hC12 := hC2.no hS5
    have d5 : PV RPacket M a_p (D 3) w12 := dpA hd5 3 Z
    generalize hq2 : (D 3) = v16 at d5
    refine dg_sub (E' := [(8, v16), (7, (.bool true))]) ⟨(congrArg some hq2), (dpE hd5 2 Z Z), trivial⟩ (dg_on Z Z Z Z (ow_call Z Z Tryd.call41 (w_spec_PacketValid (hG.mono (lz1.trans hl12)) hC12.old d5 hx2) fun v17 w13 hv17 => ?_))
    obtain ⟨hv17, hb8⟩ := hv17
    obtain rfl := vbool_eq hv17
    exact ⟨hb8, Z⟩
   ·
    intro w14 D hS6 hd6
    exact dg_sub (E' := [(7, (.bool true)), (9, (.bool true))]) ⟨(dpE hd6 2 Z Z), (dpE hd6 4 Z Z), trivial⟩ (dg_plain Z (ow_pickT Z Z Z ⟨BX.refl _ _, Z⟩))
   ·
    intro w15 D hS7 hd7
    exact dg_sub (E' := [(10, (.bool true))]) ⟨(dpE hd7 5 Z Z), trivial⟩ (dg_plain Z (ow_move Z Z ⟨BX.refl _ _, Z⟩))
   ·
    intro w16 D hS8 hd8
    have hl16 := Le.no M hS8
    exact dg_sub (E' := [(11, (.bool true)), (3, (.pointer (some p2)))]) ⟨(dpE hd8 6 Z Z), Z, trivial⟩ (dg_on Z Z Z Z (ow_load (R := RPacket) Z Z (ARep.mono hl16 hp2) (Tryd.sizeOf38 _) (Tryd.isAgg38 _) fun v18 hv18 => ⟨BX.refl _ _, hv18⟩))
   ·
    intro w17 D hS9 hd9
    have hl17 := Le.no M hS9
    exact dg_sub (E' := [(11, (.bool true)), (2, (.pointer (some p1)))]) ⟨(dpE hd9 6 Z Z), Z, trivial⟩ (dg_on Z Z Z Z (ow_fieldAddr Z Z Tryd.underlying31 Z (Tryd.sizeOf3 _) ⟨BX.refl _ _, ⟨_, Z, (ARep.mono (hl2.trans hl17) (hp1.fld fld_Test_Field))⟩⟩))
   ·
    intro w18 D hS10 hd10
    have d14 : PA RInt M a_t.Field (D 8) w18 := dpA hd10 8 Z
    obtain ⟨p3, e1, ha1⟩ := d14
    refine dg_sub (E' := [(13, (.pointer (some p3))), (11, (.bool true))]) ⟨(congrArg some e1), (dpE hd10 6 Z Z), trivial⟩ (dg_on Z Z Z Z (ow_load (R := RInt) Z Z ha1 (Tryd.sizeOf3 _) (Tryd.isAgg3 _) fun v19 hv19 => ?_))
    obtain rfl := vint_eq hv19
    exact ⟨BX.refl _ _, Z⟩
   ·
    intro w19 D hS11 hd11
    have hl19 := Le.no M hS11
    have hC19 := hC2.no hS11
    have d16 : PV RPacket M a_p (D 7) w19 := dpA hd11 7 Z
    generalize hq3 : (D 7) = v20 at d16
    refine dg_sub (E' := [(12, v20), (14, (.int .i64 a_t.Field)), (11, (.bool true))]) ⟨(congrArg some hq3), (dpE hd11 9 Z Z), (dpE hd11 6 Z Z), trivial⟩ (dg_on Z Z Z Z (ow_call Z Z Tryd.call114 (w_spec_PacketField (hG.mono (lz1.trans hl19)) hC19.old d16 hx3) fun v21 w20 hv21 => ?_))
    obtain ⟨hv21, hb9⟩ := hv21
    obtain rfl := vint_eq hv21
    exact ⟨hb9, Z⟩
   ·
    intro w21 D hS12 hd12
    have hl21 := Le.no M hS12
    exact dg_sub (E' := [(11, (.bool true)), (2, (.pointer (some p1)))]) ⟨(dpE hd12 6 Z Z), Z, trivial⟩ (dg_on Z Z Z Z (ow_fieldAddr Z Z Tryd.underlying31 Z (Tryd.sizeOf3 _) ⟨BX.refl _ _, ⟨_, Z, (ARep.mono (hl2.trans hl21) (hp1.fld fld_Test_Lo))⟩⟩))
   ·
    intro w22 D hS13 hd13
    have d21 : PA RInt M a_t.Lo (D 11) w22 := dpA hd13 11 Z
    obtain ⟨p4, e2, ha2⟩ := d21
    refine dg_sub (E' := [(16, (.pointer (some p4))), (11, (.bool true))]) ⟨(congrArg some e2), (dpE hd13 6 Z Z), trivial⟩ (dg_on Z Z Z Z (ow_load (R := RInt) Z Z ha2 (Tryd.sizeOf3 _) (Tryd.isAgg3 _) fun v22 hv22 => ?_))
    obtain rfl := vint_eq hv22
    exact ⟨BX.refl _ _, Z⟩
   ·
    intro w23 D hS14 hd14
    have hl23 := Le.no M hS14
    exact dg_sub (E' := [(11, (.bool true)), (2, (.pointer (some p1)))]) ⟨(dpE hd14 6 Z Z), Z, trivial⟩ (dg_on Z Z Z Z (ow_fieldAddr Z Z Tryd.underlying31 Z (Tryd.sizeOf3 _) ⟨BX.refl _ _, ⟨_, Z, (ARep.mono (hl2.trans hl23) (hp1.fld fld_Test_Hi))⟩⟩))
   ·
    intro w24 D hS15 hd15
    have d24 : PA RInt M a_t.Hi (D 13) w24 := dpA hd15 13 Z
    obtain ⟨p5, e3, ha3⟩ := d24
    refine dg_sub (E' := [(18, (.pointer (some p5))), (11, (.bool true))]) ⟨(congrArg some e3), (dpE hd15 6 Z Z), trivial⟩ (dg_on Z Z Z Z (ow_load (R := RInt) Z Z ha3 (Tryd.sizeOf3 _) (Tryd.isAgg3 _) fun v23 hv23 => ?_))
    obtain rfl := vint_eq hv23
    exact ⟨BX.refl _ _, Z⟩
   ·
    intro w25 D hS16 hd16
    have hl25 := Le.no M hS16
    have hC25 := hC2.no hS16
    refine dg_sub (E' := [(15, (.int .i64 x3)), (17, (.int .i64 a_t.Lo)), (19, (.int .i64 a_t.Hi)), (11, (.bool true))]) ⟨(dpE hd16 10 Z Z), (dpE hd16 12 Z Z), (dpE hd16 14 Z Z), (dpE hd16 6 Z Z), trivial⟩ (dg_on Z Z Z Z (ow_call Z Z Tryd.call70 (w_spec_l1In (hG.mono (lz1.trans hl25)) hC25.old hx4) fun v24 w26 hv24 => ?_))
    obtain ⟨hv24, hb10⟩ := hv24
    obtain rfl := vbool_eq hv24
    exact ⟨hb10, Z⟩
   ·
    intro w27 D hS17 hd17
    have hl27 := Le.no M hS17
    exact dg_sub (E' := [(11, (.bool true)), (2, (.pointer (some p1)))]) ⟨(dpE hd17 6 Z Z), Z, trivial⟩ (dg_on Z Z Z Z (ow_fieldAddr Z Z Tryd.underlying31 Z (Tryd.sizeOf4 _) ⟨BX.refl _ _, ⟨_, Z, (ARep.mono (hl2.trans hl27) (hp1.fld fld_Test_Not))⟩⟩))
   ·
    intro w28 D hS18 hd18
    have d32 : PA RBool M a_t.Not (D 16) w28 := dpA hd18 16 Z
    obtain ⟨p6, e4, ha4⟩ := d32
    refine dg_sub (E' := [(21, (.pointer (some p6))), (11, (.bool true))]) ⟨(congrArg some e4), (dpE hd18 6 Z Z), trivial⟩ (dg_on Z Z Z Z (ow_load (R := RBool) Z Z ha4 (Tryd.sizeOf4 _) (Tryd.isAgg4 _) fun v25 hv25 => ?_))
    obtain ⟨bb2, hbb2, rfl⟩ := vbool_ex hv25
    exact ⟨BX.refl _ _, (congrArg Value.bool hbb2)⟩
   ·
    intro w29 D hS19 hd19
    have d49 : PEq (.bool x4) (D 15) w29 := dpA hd19 15 Z
    have d51 : PEq (.bool a_t.Not) (D 17) w29 := dpA hd19 17 Z
    have hC29 := hC2.no hS19
    obtain ⟨bb3, hq4, hq5⟩ : ∃ b, b = x4 ∧ (D 15) = .bool b := ⟨_, rfl, d49⟩
    obtain ⟨bb4, hq6, hq7⟩ : ∃ b, b = a_t.Not ∧ (D 17) = .bool b := ⟨_, rfl, d51⟩
    refine lw_sub (E' := [(11, (.bool true)), (20, (.bool bb3)), (22, (.bool bb4)), (2, (.pointer (some p1))), (3, (.pointer (some p2))), (4, (.bool false))]) ⟨(dpE hd19 6 Z Z), (congrArg some hq5), (congrArg some hq7), Z, Z, Z, trivial⟩ (lw_on Z Z Z Z Z Z (ow_neqB Z Z Z Tryd.underlying4 fun bb5 hbb5 => ?_))
    have hbb5' : bb5 = (x4 != a_t.Not) := hbb5.trans (by rw [hq4, hq6])
    refine lw_op Z Z Z (ow_pickT Z Z Z (lw_op Z Z Z (ow_assign Z Z (lw_nil (ew_then (cw_ret ?_))))))
    obtain rfl := Option.some.inj h
    exact ew_ret (res1 Z (.tmp Z)) ⟨_, Z, ((vbool_of hbb5')), hC29.bx⟩
  ·
   subst hc2
   have lz2 := (hl1.trans hl2)
   refine cw_sub (E' := [(2, (.pointer (some p1))), (3, (.pointer (some p2))), (4, (.bool false))]) ⟨Z, Z, Z, trivial⟩ (cw_drawQ 18 [PV RTest M a_t, PEq (.bool true), PEq (.bool true), PV RPacket M a_p, PEq (.bool false), PEq (.bool false), PEq (.bool false), PEq undef, PEq undef, PEq undef, PEq undef, PEq undef, PEq undef, PEq undef, PEq undef, PEq undef, PEq undef, PEq undef] (by kernel_rfl) Z (by kernel_rfl) ⟨PV.mono _ _ _, PEq.mono _, PEq.mono _, PV.mono _ _ _, PEq.mono _, PEq.mono _, PEq.mono _, PEq.mono _, PEq.mono _, PEq.mono _, PEq.mono _, PEq.mono _, PEq.mono _, PEq.mono _, PEq.mono _, PEq.mono _, PEq.mono _, PEq.mono _, trivial⟩ ⟨?_, ?_, ?_, ?_, ?_, ?_, ?_, ?_, ?_, ?_, ?_, ?_, ?_, ?_, ?_, ?_, ?_, ?_, trivial⟩ ?_)
   ·
    intro w30 D hS20 hd20
    have hl30 := Le.no M hS20
    exact dg_sub (E' := [(2, (.pointer (some p1)))]) ⟨Z, trivial⟩ (dg_plain Z (ow_load (R := RTest) Z Z (ARep.mono (hl2.trans hl30) hp1) (Tryd.sizeOf31 _) (Tryd.isAgg31 _) fun v26 hv26 => ⟨BX.refl _ _, hv26⟩))
   ·
    intro w31 D hS21 hd21
    have hl31 := Le.no M hS21
    have hC31 := hC2.no hS21
    have d52 : PV RTest M a_t (D 0) w31 := dpA hd21 0 Z
    generalize hq8 : (D 0) = v27 at d52
    refine dg_sub (E' := [(5, v27)]) ⟨(congrArg some hq8), trivial⟩ (dg_plain Z (ow_call Z Z Tryd.call91 (w_spec_TestValid (hG.mono (lz2.trans hl31)) hC31.old d52 hx1) fun v28 w32 hv28 => ?_))
    obtain ⟨hv28, hb11⟩ := hv28
    obtain rfl := vbool_eq hv28
    exact ⟨hb11, Z⟩
   ·
    intro w33 D hS22 hd22
    exact dg_sub (E' := [(6, (.bool true))]) ⟨(dpE hd22 1 Z Z), trivial⟩ (dg_plain Z (ow_move Z Z ⟨BX.refl _ _, Z⟩))
   ·
    intro w34 D hS23 hd23
    have hl34 := Le.no M hS23
    exact dg_sub (E' := [(7, (.bool true)), (3, (.pointer (some p2)))]) ⟨(dpE hd23 2 Z Z), Z, trivial⟩ (dg_on Z Z Z Z (ow_load (R := RPacket) Z Z (ARep.mono hl34 hp2) (Tryd.sizeOf38 _) (Tryd.isAgg38 _) fun v29 hv29 => ⟨BX.refl _ _, hv29⟩))
   ·
    intro w35 D hS24 hd24
    have hl35 := Le.no M hS24
    have hC35 := hC2.no hS24
    have d56 : PV RPacket M a_p (D 3) w35 := dpA hd24 3 Z
    generalize hq9 : (D 3) = v30 at d56
    refine dg_sub (E' := [(8, v30), (7, (.bool true))]) ⟨(congrArg some hq9), (dpE hd24 2 Z Z), trivial⟩ (dg_on Z Z Z Z (ow_call Z Z Tryd.call41 (w_spec_PacketValid (hG.mono (lz2.trans hl35)) hC35.old d56 hx2) fun v31 w36 hv31 => ?_))
    obtain ⟨hv31, hb12⟩ := hv31
    obtain rfl := vbool_eq hv31
    exact ⟨hb12, Z⟩
   ·
    intro w37 D hS25 hd25
    exact dg_sub (E' := [(7, (.bool true)), (9, (.bool false))]) ⟨(dpE hd25 2 Z Z), (dpE hd25 4 Z Z), trivial⟩ (dg_plain Z (ow_pickT Z Z Z ⟨BX.refl _ _, Z⟩))
   ·
    intro w38 D hS26 hd26
    exact dg_sub (E' := [(10, (.bool false))]) ⟨(dpE hd26 5 Z Z), trivial⟩ (dg_plain Z (ow_move Z Z ⟨BX.refl _ _, Z⟩))
   ·
    intro w39 D hS27 hd27
    exact dg_sub (E' := [(11, (.bool false)), (3, (.pointer (some p2)))]) ⟨(dpE hd27 6 Z Z), Z, trivial⟩ (dg_off Z Z Z Z ⟨BX.refl _ _, Z⟩)
   ·
    intro w40 D hS28 hd28
    exact dg_sub (E' := [(11, (.bool false)), (2, (.pointer (some p1)))]) ⟨(dpE hd28 6 Z Z), Z, trivial⟩ (dg_off Z Z Z Z ⟨BX.refl _ _, Z⟩)
   ·
    intro w41 D hS29 hd29
    exact dg_sub (E' := [(13, undef), (11, (.bool false))]) ⟨(dpE hd29 8 Z Z), (dpE hd29 6 Z Z), trivial⟩ (dg_off Z Z Z Z ⟨BX.refl _ _, Z⟩)
   ·
    intro w42 D hS30 hd30
    exact dg_sub (E' := [(12, undef), (14, undef), (11, (.bool false))]) ⟨(dpE hd30 7 Z Z), (dpE hd30 9 Z Z), (dpE hd30 6 Z Z), trivial⟩ (dg_off Z Z Z Z ⟨BX.refl _ _, Z⟩)
   ·
    intro w43 D hS31 hd31
    exact dg_sub (E' := [(11, (.bool false)), (2, (.pointer (some p1)))]) ⟨(dpE hd31 6 Z Z), Z, trivial⟩ (dg_off Z Z Z Z ⟨BX.refl _ _, Z⟩)
   ·
    intro w44 D hS32 hd32
    exact dg_sub (E' := [(16, undef), (11, (.bool false))]) ⟨(dpE hd32 11 Z Z), (dpE hd32 6 Z Z), trivial⟩ (dg_off Z Z Z Z ⟨BX.refl _ _, Z⟩)
   ·
    intro w45 D hS33 hd33
    exact dg_sub (E' := [(11, (.bool false)), (2, (.pointer (some p1)))]) ⟨(dpE hd33 6 Z Z), Z, trivial⟩ (dg_off Z Z Z Z ⟨BX.refl _ _, Z⟩)
   ·
    intro w46 D hS34 hd34
    exact dg_sub (E' := [(18, undef), (11, (.bool false))]) ⟨(dpE hd34 13 Z Z), (dpE hd34 6 Z Z), trivial⟩ (dg_off Z Z Z Z ⟨BX.refl _ _, Z⟩)
   ·
    intro w47 D hS35 hd35
    exact dg_sub (E' := [(15, undef), (17, undef), (19, undef), (11, (.bool false))]) ⟨(dpE hd35 10 Z Z), (dpE hd35 12 Z Z), (dpE hd35 14 Z Z), (dpE hd35 6 Z Z), trivial⟩ (dg_off Z Z Z Z ⟨BX.refl _ _, Z⟩)
   ·
    intro w48 D hS36 hd36
    exact dg_sub (E' := [(11, (.bool false)), (2, (.pointer (some p1)))]) ⟨(dpE hd36 6 Z Z), Z, trivial⟩ (dg_off Z Z Z Z ⟨BX.refl _ _, Z⟩)
   ·
    intro w49 D hS37 hd37
    exact dg_sub (E' := [(21, undef), (11, (.bool false))]) ⟨(dpE hd37 16 Z Z), (dpE hd37 6 Z Z), trivial⟩ (dg_off Z Z Z Z ⟨BX.refl _ _, Z⟩)
   ·
    intro w50 D hS38 hd38
    have hC50 := hC2.no hS38
    refine lw_sub (E' := [(11, (.bool false)), (20, undef), (22, undef), (2, (.pointer (some p1))), (3, (.pointer (some p2))), (4, (.bool false))]) ⟨(dpE hd38 6 Z Z), (dpE hd38 15 Z Z), (dpE hd38 17 Z Z), Z, Z, Z, trivial⟩ (lw_off Z Z Z Z Z Z (lw_op Z Z Z (ow_pickF Z Z Z (lw_op Z Z Z (ow_assign Z Z (lw_nil (ew_then (cw_ret ?_))))))))
    obtain rfl := Option.some.inj h
    exact ew_ret (res1 Z (.tmp Z)) ⟨_, Z, ((vbool _)), hC50.bx⟩
 ·
  subst hc1
  have lz3 := (hl1.trans hl2)
  refine cw_sub (E' := [(2, (.pointer (some p1))), (3, (.pointer (some p2))), (4, (.bool false))]) ⟨Z, Z, Z, trivial⟩ (cw_drawQ 18 [PV RTest M a_t, PEq (.bool false), PEq (.bool false), PEq undef, PEq undef, PEq (.bool false), PEq (.bool false), PEq undef, PEq undef, PEq undef, PEq undef, PEq undef, PEq undef, PEq undef, PEq undef, PEq undef, PEq undef, PEq undef] (by kernel_rfl) Z (by kernel_rfl) ⟨PV.mono _ _ _, PEq.mono _, PEq.mono _, PEq.mono _, PEq.mono _, PEq.mono _, PEq.mono _, PEq.mono _, PEq.mono _, PEq.mono _, PEq.mono _, PEq.mono _, PEq.mono _, PEq.mono _, PEq.mono _, PEq.mono _, PEq.mono _, PEq.mono _, trivial⟩ ⟨?_, ?_, ?_, ?_, ?_, ?_, ?_, ?_, ?_, ?_, ?_, ?_, ?_, ?_, ?_, ?_, ?_, ?_, trivial⟩ ?_)
  ·
   intro w51 D hS39 hd39
   have hl51 := Le.no M hS39
   exact dg_sub (E' := [(2, (.pointer (some p1)))]) ⟨Z, trivial⟩ (dg_plain Z (ow_load (R := RTest) Z Z (ARep.mono (hl2.trans hl51) hp1) (Tryd.sizeOf31 _) (Tryd.isAgg31 _) fun v32 hv32 => ⟨BX.refl _ _, hv32⟩))
  ·
   intro w52 D hS40 hd40
   have hl52 := Le.no M hS40
   have hC52 := hC2.no hS40
   have d103 : PV RTest M a_t (D 0) w52 := dpA hd40 0 Z
   generalize hq10 : (D 0) = v33 at d103
   refine dg_sub (E' := [(5, v33)]) ⟨(congrArg some hq10), trivial⟩ (dg_plain Z (ow_call Z Z Tryd.call91 (w_spec_TestValid (hG.mono (lz3.trans hl52)) hC52.old d103 hx1) fun v34 w53 hv34 => ?_))
   obtain ⟨hv34, hb13⟩ := hv34
   obtain rfl := vbool_eq hv34
   exact ⟨hb13, Z⟩
  ·
   intro w54 D hS41 hd41
   exact dg_sub (E' := [(6, (.bool false))]) ⟨(dpE hd41 1 Z Z), trivial⟩ (dg_plain Z (ow_move Z Z ⟨BX.refl _ _, Z⟩))
  ·
   intro w55 D hS42 hd42
   exact dg_sub (E' := [(7, (.bool false)), (3, (.pointer (some p2)))]) ⟨(dpE hd42 2 Z Z), Z, trivial⟩ (dg_off Z Z Z Z ⟨BX.refl _ _, Z⟩)
  ·
   intro w56 D hS43 hd43
   exact dg_sub (E' := [(8, undef), (7, (.bool false))]) ⟨(dpE hd43 3 Z Z), (dpE hd43 2 Z Z), trivial⟩ (dg_off Z Z Z Z ⟨BX.refl _ _, Z⟩)
  ·
   intro w57 D hS44 hd44
   exact dg_sub (E' := [(7, (.bool false)), (9, undef)]) ⟨(dpE hd44 2 Z Z), (dpE hd44 4 Z Z), trivial⟩ (dg_plain Z (ow_pickF Z Z Z ⟨BX.refl _ _, Z⟩))
  ·
   intro w58 D hS45 hd45
   exact dg_sub (E' := [(10, (.bool false))]) ⟨(dpE hd45 5 Z Z), trivial⟩ (dg_plain Z (ow_move Z Z ⟨BX.refl _ _, Z⟩))
  ·
   intro w59 D hS46 hd46
   exact dg_sub (E' := [(11, (.bool false)), (3, (.pointer (some p2)))]) ⟨(dpE hd46 6 Z Z), Z, trivial⟩ (dg_off Z Z Z Z ⟨BX.refl _ _, Z⟩)
  ·
   intro w60 D hS47 hd47
   exact dg_sub (E' := [(11, (.bool false)), (2, (.pointer (some p1)))]) ⟨(dpE hd47 6 Z Z), Z, trivial⟩ (dg_off Z Z Z Z ⟨BX.refl _ _, Z⟩)
  ·
   intro w61 D hS48 hd48
   exact dg_sub (E' := [(13, undef), (11, (.bool false))]) ⟨(dpE hd48 8 Z Z), (dpE hd48 6 Z Z), trivial⟩ (dg_off Z Z Z Z ⟨BX.refl _ _, Z⟩)
  ·
   intro w62 D hS49 hd49
   exact dg_sub (E' := [(12, undef), (14, undef), (11, (.bool false))]) ⟨(dpE hd49 7 Z Z), (dpE hd49 9 Z Z), (dpE hd49 6 Z Z), trivial⟩ (dg_off Z Z Z Z ⟨BX.refl _ _, Z⟩)
  ·
   intro w63 D hS50 hd50
   exact dg_sub (E' := [(11, (.bool false)), (2, (.pointer (some p1)))]) ⟨(dpE hd50 6 Z Z), Z, trivial⟩ (dg_off Z Z Z Z ⟨BX.refl _ _, Z⟩)
  ·
   intro w64 D hS51 hd51
   exact dg_sub (E' := [(16, undef), (11, (.bool false))]) ⟨(dpE hd51 11 Z Z), (dpE hd51 6 Z Z), trivial⟩ (dg_off Z Z Z Z ⟨BX.refl _ _, Z⟩)
  ·
   intro w65 D hS52 hd52
   exact dg_sub (E' := [(11, (.bool false)), (2, (.pointer (some p1)))]) ⟨(dpE hd52 6 Z Z), Z, trivial⟩ (dg_off Z Z Z Z ⟨BX.refl _ _, Z⟩)
  ·
   intro w66 D hS53 hd53
   exact dg_sub (E' := [(18, undef), (11, (.bool false))]) ⟨(dpE hd53 13 Z Z), (dpE hd53 6 Z Z), trivial⟩ (dg_off Z Z Z Z ⟨BX.refl _ _, Z⟩)
  ·
   intro w67 D hS54 hd54
   exact dg_sub (E' := [(15, undef), (17, undef), (19, undef), (11, (.bool false))]) ⟨(dpE hd54 10 Z Z), (dpE hd54 12 Z Z), (dpE hd54 14 Z Z), (dpE hd54 6 Z Z), trivial⟩ (dg_off Z Z Z Z ⟨BX.refl _ _, Z⟩)
  ·
   intro w68 D hS55 hd55
   exact dg_sub (E' := [(11, (.bool false)), (2, (.pointer (some p1)))]) ⟨(dpE hd55 6 Z Z), Z, trivial⟩ (dg_off Z Z Z Z ⟨BX.refl _ _, Z⟩)
  ·
   intro w69 D hS56 hd56
   exact dg_sub (E' := [(21, undef), (11, (.bool false))]) ⟨(dpE hd56 16 Z Z), (dpE hd56 6 Z Z), trivial⟩ (dg_off Z Z Z Z ⟨BX.refl _ _, Z⟩)
  ·
   intro w70 D hS57 hd57
   have hC70 := hC2.no hS57
   refine lw_sub (E' := [(11, (.bool false)), (20, undef), (22, undef), (2, (.pointer (some p1))), (3, (.pointer (some p2))), (4, (.bool false))]) ⟨(dpE hd57 6 Z Z), (dpE hd57 15 Z Z), (dpE hd57 17 Z Z), Z, Z, Z, trivial⟩ (lw_off Z Z Z Z Z Z (lw_op Z Z Z (ow_pickF Z Z Z (lw_op Z Z Z (ow_assign Z Z (lw_nil (ew_then (cw_ret ?_))))))))
   obtain rfl := Option.some.inj h
   exact ew_ret (res1 Z (.tmp Z)) ⟨_, Z, ((vbool _)), hC70.bx⟩

theorem w_spec_TestsHold {w : World} {M : Nat → Prop} (hG : ARep (RArr 4 RShape) w M shapes ⟨0, 0, none⟩) (hO : ∀ b, M b → b < w.heap.size) {v0p : Value} {a_list : List Test} (h0 : VRep (RSlice RTest) w M a_list v0p) {v1p : Value} {a_p : Packet} (h1 : VRep RPacket w M a_p v1p) {r : Bool} (h : F.spec_TestsHold a_list a_p = some r) :
  Calls Tryd.prog 93 [v0p, v1p].toArray w fun e w' => ∃ v, e = .returned v ∧ VRep RBool w' M r v ∧ BX No w w' := by
 have hC : Cx No w M w M := Cx.start hO (fun _ e => e.elim)
 refine walk (N := 25) Tryd.func93 Z Tryd.ntmps93 Z (cw_seq (cw_region (lw_op Z Z Z (ow_box (R := RPacket) Z Z h1 hC fun p1 w1 hp1 hb1 hl1 hC1 => lw_op Z Z Z (ow_assign Z Z (lw_nil (ew_then (cw_seq (cw_seq (cw_region (lw_op Z Z Z (ow_assign Z Z (lw_nil (ew_then ?_))))))))))))))
 replace h := bind_some h
 obtain ⟨lr1, hlr1, h⟩ := h
 refine cw_for hlr1 (fun s a w' => ∃ (M' : Nat → Prop), Fits 25 [(0, v0p), (3, (.pointer (some p1))), (5, (.int .i64 s))] a ∧ Le w1 M w' M' ∧ Cx No w M w' M') ?_ ?_ ?_
 ·
  intro a ha
  exact ⟨M, ha.sub ⟨Z, Z, Z, trivial⟩, Le.refl _ _, hC1⟩
 ·
  rintro k1 a w2 sr1 ⟨M1, hF1, hl2, hC2⟩ hb2 hR1
  refine cw_at (E := [(0, v0p), (3, (.pointer (some p1))), (5, (.int .i64 k1))]) hF1 (cw_seq (cw_seq (cw_region (lw_op Z Z Z (ow_move Z Z (lw_op Z Z Z (ow_move Z Z (lw_op Z Z Z (ow_len Z Z (VRep.mono (hl1.trans hl2) h0) Tryd.underlying27 Z (lw_op Z Z Z (ow_lss Z Z Z fun bb1 hbb1 => lw_nil (ew_then ?_))))))))))))
  replace hb2 := cond_some hb2
  rcases hb2 with ⟨hc1, hb2⟩ | ⟨hc1, hb2⟩
  ·
   obtain rfl := hbb1.trans hc1
   refine cw_true Z (cw_skip (ew_then (cw_seq (cw_block (cw_seq ?_)))))
   replace hb2 := bind_some hb2
   obtain ⟨x1, hx1, hb2⟩ := hb2
   have lz1 := (hl1.trans hl2)
   refine cw_sub (E' := [(0, v0p), (3, (.pointer (some p1))), (5, (.int .i64 k1))]) ⟨Z, Z, Z, trivial⟩ (cw_drawQ 5 [PV (RSlice RTest) M1 a_list, PEq (.int .i64 k1), PA RTest M1 x1, PV RTest M1 x1, PV RPacket M1 a_p] (by kernel_rfl) Z (by kernel_rfl) ⟨PV.mono _ _ _, PEq.mono _, PA.mono _ _ _, PV.mono _ _ _, PV.mono _ _ _, trivial⟩ ⟨?_, ?_, ?_, ?_, ?_, trivial⟩ ?_)
   ·
    intro w3 D hS1 hd1
    have hl3 := Le.no M1 hS1
    exact dg_sub (E' := [(0, v0p)]) ⟨Z, trivial⟩ (dg_plain Z (ow_move Z Z ⟨BX.refl _ _, (VRep.mono (lz1.trans hl3) h0)⟩))
   ·
    intro w4 D hS2 hd2
    exact dg_sub (E' := [(5, (.int .i64 k1))]) ⟨Z, trivial⟩ (dg_plain Z (ow_move Z Z ⟨BX.refl _ _, Z⟩))
   ·
    intro w5 D hS3 hd3
    have d1 : PV (RSlice RTest) M1 a_list (D 0) w5 := dpA hd3 0 Z
    generalize hq1 : (D 0) = v4 at d1
    exact dg_sub (E' := [(12, v4), (13, (.int .i64 k1))]) ⟨(congrArg some hq1), (dpE hd3 1 Z Z), trivial⟩ (dg_plain Z (ow_indexSlice (R := RTest) Z Z Z d1 Tryd.underlying27 (Tryd.sizeOf31 _) hx1 fun p3 hp3 => ⟨BX.refl _ _, ⟨_, Z, hp3⟩⟩))
   ·
    intro w6 D hS4 hd4
    have d3 : PA RTest M1 x1 (D 2) w6 := dpA hd4 2 Z
    obtain ⟨p4, e1, ha1⟩ := d3
    exact dg_sub (E' := [(14, (.pointer (some p4)))]) ⟨(congrArg some e1), trivial⟩ (dg_plain Z (ow_load (R := RTest) Z Z ha1 (Tryd.sizeOf31 _) (Tryd.isAgg31 _) fun v5 hv5 => ⟨BX.refl _ _, hv5⟩))
   ·
    intro w7 D hS5 hd5
    have hl7 := Le.no M1 hS5
    exact dg_sub (E' := [(3, (.pointer (some p1)))]) ⟨Z, trivial⟩ (dg_plain Z (ow_load (R := RPacket) Z Z (ARep.mono (hl2.trans hl7) hp1) (Tryd.sizeOf38 _) (Tryd.isAgg38 _) fun v6 hv6 => ⟨BX.refl _ _, hv6⟩))
   ·
    intro w8 D hS6 hd6
    have d7 : PV RTest M1 x1 (D 3) w8 := dpA hd6 3 Z
    have d8 : PV RPacket M1 a_p (D 4) w8 := dpA hd6 4 Z
    have hl8 := Le.no M1 hS6
    have hC8 := hC2.no hS6
    generalize hq2 : (D 3) = v7 at d7
    generalize hq3 : (D 4) = v8 at d8
    refine lw_sub (E' := [(15, v7), (16, v8), (0, v0p), (3, (.pointer (some p1))), (5, (.int .i64 k1))]) ⟨(congrArg some hq2), (congrArg some hq3), Z, Z, Z, trivial⟩ ?_
    replace hb2 := bind_some hb2
    obtain ⟨x2, hx2, hb2⟩ := hb2
    refine lw_op Z Z Z (ow_call Z Z Tryd.call110 (w_spec_TestHolds (hG.mono (lz1.trans hl8)) hC8.old d7 d8 hx2) fun v9 w9 hv9 => ?_)
    obtain ⟨hv9, hb3⟩ := hv9
    have hl9 := Le.no M1 hb3
    have hC9 := hC8.no hb3
    obtain rfl := vbool_eq hv9
    refine lw_op Z Z Z (ow_not Z Z (lw_nil (ew_then ?_)))
    replace hb2 := cond_some hb2
    rcases hb2 with ⟨hc2, hb2⟩ | ⟨hc2, hb2⟩
    ·
     subst hc2
     refine cw_false Z (cw_skip (ew_blockN (ew_then (cw_region (lw_op Z Z Z (ow_move Z Z (lw_op Z Z Z (ow_add Z Z Z (lw_op Z Z Z (ow_assign Z Z (lw_nil ?_)))))))))))
     have lz2 := ((hl2.trans hl8).trans hl9)
     exact ew_nxt (W (k1 + 1)) hb2 fun a ha => ⟨M1, (ha.sub ⟨Z, Z, Z, trivial⟩), lz2, hC9⟩
    ·
     subst hc2
     refine cw_true Z (cw_seq (cw_region (lw_op Z Z Z (ow_assign Z Z (lw_nil (ew_then (cw_ret (ew_blockR (ew_thenR (ew_thenR (ew_blockR (ew_brkR (ew_thenR ?_)))))))))))))
     have e2 := hR1 _ (Option.some.inj hb2).symm
     subst e2
     obtain rfl := Option.some.inj h
     exact ew_ret (res1 Z (.tmp Z)) ⟨_, Z, ((vbool _)), hC9.bx⟩
  ·
   obtain rfl := hbb1.trans hc1
   exact cw_false Z (cw_exit (ew_thenX (ew_thenX (ew_blockX (ew_brk k1 hb2 fun a ha => ⟨M1, (ha.sub ⟨Z, Z, Z, trivial⟩), hl2, hC2⟩)))))
 ·
  rintro k2 a w10 hlr2 ⟨M2, hF2, hl10, hC10⟩
  subst hlr2
  refine ew_at (E := [(0, v0p), (3, (.pointer (some p1))), (5, (.int .i64 k2))]) hF2 (ew_then (cw_seq (cw_region (lw_op Z Z Z (ow_move Z Z ?_)))))
  replace h := bind_some h
  obtain ⟨x3, hx3, h⟩ := h
  refine lw_op Z Z Z (ow_call Z Z Tryd.call98 (w_spec_TestsValid (hG.mono (hl1.trans hl10)) hC10.old (VRep.mono (hl1.trans hl10) h0) hx3) fun v11 w11 hv11 => ?_)
  obtain ⟨hv11, hb4⟩ := hv11
  have hl11 := Le.no M2 hb4
  have hC11 := hC10.no hb4
  obtain rfl := vbool_eq hv11
  refine lw_op Z Z Z (ow_move Z Z ?_)
  replace h := cond_some h
  rcases h with ⟨hc3, h⟩ | ⟨hc3, h⟩
  ·
   subst hc3
   refine lw_on Z Z Z Z Z Z (ow_load (R := RPacket) Z Z (ARep.mono (hl10.trans hl11) hp1) (Tryd.sizeOf38 _) (Tryd.isAgg38 _) fun v12 hv12 => ?_)
   replace h := bind_some h
   obtain ⟨x4, hx4, h⟩ := h
   have lz3 := ((hl1.trans hl10).trans hl11)
   refine lw_on Z Z Z Z Z Z (ow_call Z Z Tryd.call41 (w_spec_PacketValid (hG.mono lz3) hC11.old hv12 hx4) fun v13 w12 hv13 => ?_)
   obtain ⟨hv13, hb5⟩ := hv13
   have hC12 := hC11.no hb5
   obtain rfl := vbool_eq hv13
   refine lw_op Z Z Z (ow_pickT Z Z Z (lw_op Z Z Z (ow_assign Z Z (lw_nil (ew_then (cw_ret ?_))))))
   obtain rfl := Option.some.inj h
   exact ew_ret (res1 Z (.tmp Z)) ⟨_, Z, ((vbool _)), hC12.bx⟩
  ·
   subst hc3
   refine lw_off Z Z Z Z Z Z (lw_off Z Z Z Z Z Z (lw_op Z Z Z (ow_pickF Z Z Z (lw_op Z Z Z (ow_assign Z Z (lw_nil (ew_then (cw_ret ?_))))))))
   obtain rfl := Option.some.inj h
   exact ew_ret (res1 Z (.tmp Z)) ⟨_, Z, ((vbool _)), hC11.bx⟩

theorem w_spec_l9Walk (n_ : Nat) : ∀ {w : World} {M : Nat → Prop} (hG : ARep (RArr 4 RShape) w M shapes ⟨0, 0, none⟩) (hO : ∀ b, M b → b < w.heap.size) {v0p : Value} {a_s : Ruleset} (h0 : VRep RRuleset w M a_s v0p) {a_chain : Int} {v2p : Value} {a_p : Packet} (h2 : VRep RPacket w M a_p v2p) {vs0 : Value} {a_0c : List Visit} (hr0p : OwnRow RVisit 0 60 w M a_0c vs0) {g : Nat} (hown : Own w g 57 #[vs0]) (hgM : M g) {r : Int × (List Visit)} (h : F.spec_l9Walk n_ a_s a_chain a_p a_0c = some r),
  Calls Tryd.prog 64 [v0p, (.int .i64 a_chain), v2p, (.pointer (some ⟨g, 0, none⟩))].toArray w fun e w' => ∃ v, e = .returned v ∧ VRep RInt w' M r.1 v ∧ ∃ (M' : Nat → Prop) (u0 : Value), Own w' g 57 #[u0] ∧ OwnRow RVisit 0 60 w' M' r.2 u0 ∧ Cx (fun b => b = g ∨ vs0.ownBlock = some b) w M w' M' ∧ (∀ b, u0.ownBlock = some b → w.heap.size ≤ b ∨ (fun b => b = g ∨ vs0.ownBlock = some b) b) := by
 induction n_ with
 | zero =>
  intro w M hG hO v0p a_s h0 a_chain v2p a_p h2 vs0 a_0c hr0p g hown hgM r h
  exact (Option.some_ne_none _ (show (none : Option (Int × (List Visit))) = some r from h).symm).elim
 | succ n_ ih =>
 intro w M hG hO v0p a_s h0 a_chain v2p a_p h2 vs0 a_0c hr0p g hown hgM r h
 obtain ⟨i60, hi60, hz60, hs60, hy60⟩ := info60
 have hX : ∀ b, (fun b => b = g ∨ vs0.ownBlock = some b) b → M b := fun b e => (e.elim (fun e => by rw [show b = g from e]; exact hgM) (fun e => (hr0p.mem b e)))
 have hC : Cx (fun b => b = g ∨ vs0.ownBlock = some b) w M w M := Cx.start hO hX
 have hge0p : ∀ b, vs0.ownBlock = some b → w.heap.size ≤ b ∨ (fun b => b = g ∨ vs0.ownBlock = some b) b := fun b e => .inr (.inr e)
 refine walk (N := 70) Tryd.func64 Z Tryd.ntmps64 Z (cw_seq (cw_region (lw_op Z Z Z (ow_box (R := RRuleset) Z Z h0 hC fun p1 w1 hp1 hb1 hl1 hC1 => ?_))))
 have ho1 := hown.no hb1
 have hr1 := hr0p.no hb1
 refine lw_op Z Z Z (ow_box (R := RPacket) Z Z (VRep.mono hl1 h2) hC1 fun p2 w2 hp2 hb2 hl2 hC2 => ?_)
 have ho2 := ho1.no hb2
 have hr2 := hr1.no hb2
 refine lw_op Z Z Z (ow_assign Z Z (lw_nil (ew_then (cw_seq (cw_seq (cw_region (lw_op Z Z Z (ow_assign Z Z (lw_nil (ew_then ?_))))))))))
 replace h := bind_some h
 obtain ⟨lr1, hlr1, h⟩ := h
 refine cw_for hlr1 (fun s a w' => ∃ (M' : Nat → Prop) (v1c : Value), Fits 70 [(1, (.int .i64 a_chain)), (3, (.pointer (some ⟨g, 0, none⟩))), (4, (.pointer (some p1))), (6, (.pointer (some p2))), (9, (.int .i64 s.1))] a ∧ Le w2 M w' M' ∧ Cx (fun b => b = g ∨ vs0.ownBlock = some b) w M w' M' ∧ OwnRow RVisit 0 60 w' M' s.2 v1c ∧ Own w' g 57 #[v1c] ∧ M' g ∧ (∀ b, (Value.ownBlock v1c) = some b → w.heap.size ≤ b ∨ (fun b => b = g ∨ vs0.ownBlock = some b) b)) ?_ ?_ ?_
 ·
  intro a ha
  exact ⟨M, vs0, ha.sub ⟨Z, Z, Z, Z, Z, trivial⟩, Le.refl _ _, hC2, hr2, ho2, hgM, hge0p⟩
 ·
  rintro ⟨k1, y1⟩ a w3 sr1 ⟨M1, v2, hF1, hl3, hC3, hw1, ho3, hm1, hge1⟩ hb3 hR1
  refine cw_at (E := [(1, (.int .i64 a_chain)), (3, (.pointer (some ⟨g, 0, none⟩))), (4, (.pointer (some p1))), (6, (.pointer (some p2))), (9, (.int .i64 k1))]) hF1 (cw_seq (cw_seq (cw_region (lw_op Z Z Z (ow_move Z Z (lw_op Z Z Z (ow_fieldAddr Z Z Tryd.underlying45 Z (Tryd.sizeOf43 _) (lw_op Z Z Z (ow_load (R := (RSlice (RSlice RRule))) Z Z (ARep.mono (hl2.trans hl3) (hp1.fld fld_Ruleset_Chains)) (Tryd.sizeOf43 _) (Tryd.isAgg43 _) fun v3 hv3 => lw_op Z Z Z (ow_move Z Z ?_))))))))))
  replace hb3 := bind_some hb3
  obtain ⟨x1, hx1, hb3⟩ := hb3
  refine lw_op Z Z Z (ow_indexSlice (R := (RSlice RRule)) Z Z Z hv3 Tryd.underlying43 (Tryd.sizeOf36 _) hx1 fun p3 hp3 => lw_op Z Z Z (ow_load (R := (RSlice RRule)) Z Z hp3 (Tryd.sizeOf36 _) (Tryd.isAgg36 _) fun v4 hv4 => lw_op Z Z Z (ow_len Z Z hv4 Tryd.underlying36 Z (lw_op Z Z Z (ow_lss Z Z Z fun bb1 hbb1 => lw_nil (ew_then ?_))))))
  replace hb3 := cond_some hb3
  rcases hb3 with ⟨hc1, hb3⟩ | ⟨hc1, hb3⟩
  ·
   obtain rfl := hbb1.trans hc1
   refine cw_true Z (cw_skip (ew_then (cw_seq (cw_block (cw_seq (cw_region (lw_op Z Z Z (ow_fieldAddr Z Z Tryd.underlying45 Z (Tryd.sizeOf43 _) (lw_op Z Z Z (ow_load (R := (RSlice (RSlice RRule))) Z Z (ARep.mono (hl2.trans hl3) (hp1.fld fld_Ruleset_Chains)) (Tryd.sizeOf43 _) (Tryd.isAgg43 _) fun v5 hv5 => lw_op Z Z Z (ow_move Z Z (lw_op Z Z Z (ow_indexSlice (R := (RSlice RRule)) Z Z Z hv5 Tryd.underlying43 (Tryd.sizeOf36 _) hx1 fun p4 hp4 => lw_op Z Z Z (ow_load (R := (RSlice RRule)) Z Z hp4 (Tryd.sizeOf36 _) (Tryd.isAgg36 _) fun v6 hv6 => lw_op Z Z Z (ow_move Z Z ?_)))))))))))))))
   replace hb3 := bind_some hb3
   obtain ⟨x2, hx2, hb3⟩ := hb3
   refine lw_op Z Z Z (ow_indexSlice (R := RRule) Z Z Z hv6 Tryd.underlying36 (Tryd.sizeOf42 _) hx2 fun p5 hp5 => lw_op Z Z Z (ow_load (R := RRule) Z Z hp5 (Tryd.sizeOf42 _) (Tryd.isAgg42 _) fun v7 hv7 => lw_allocStore (R := RRule) Z Z Z Z Z Z Z Tryd.zeroValue42 Tryd.sizeOf42 Z Z Z (by simp) hv7 hC3 fun p6 w4 hp6 hb4 hl4 hC4 => ?_))
   have ho4 := ho3.no hb4
   have hr3 := hw1.no hb4
   refine lw_nil (ew_then (cw_seq (cw_seq (cw_region (lw_op Z Z Z (ow_fieldAddr Z Z Tryd.underlying42 Z (Tryd.sizeOf27 _) (lw_op Z Z Z (ow_load (R := (RSlice RTest)) Z Z (hp6.fld fld_Rule_Tests) (Tryd.sizeOf27 _) (Tryd.isAgg27 _) fun v8 hv8 => lw_op Z Z Z (ow_load (R := RPacket) Z Z (ARep.mono (hl3.trans hl4) hp2) (Tryd.sizeOf38 _) (Tryd.isAgg38 _) fun v9 hv9 => ?_)))))))))
   replace hb3 := bind_some hb3
   obtain ⟨x3, hx3, hb3⟩ := hb3
   have lz1 := (((hl1.trans hl2).trans hl3).trans hl4)
   refine lw_op Z Z Z (ow_call Z Z Tryd.call93 (w_spec_TestsHold (hG.mono lz1) hC4.old hv8 hv9 hx3) fun v10 w5 hv10 => ?_)
   obtain ⟨hv10, hb5⟩ := hv10
   have hl5 := Le.no M1 hb5
   have hC5 := hC4.no hb5
   have ho5 := ho4.no hb5
   have hr4 := hr3.no hb5
   obtain rfl := vbool_eq hv10
   refine lw_op Z Z Z (ow_not Z Z (lw_nil (ew_then ?_)))
   replace hb3 := cond_some hb3
   rcases hb3 with ⟨hc2, hb3⟩ | ⟨hc2, hb3⟩
   ·
    subst hc2
    refine cw_false Z (cw_skip (ew_then (cw_seq (cw_seq (cw_region (lw_op Z Z Z (ow_move Z Z (lw_op Z Z Z (ow_nilCheck Z Z (lw_op Z Z Z (ow_loadOwn1 Z Z Z ho5 (Tryd.isAgg57 _) Z (lw_op Z Z Z (ow_lenOwn Z Z hr4 Tryd.underlying57 (lw_op Z Z Z (ow_lss Z Z Z fun bb2 hbb2 => lw_nil (ew_then ?_))))))))))))))))
    replace hb3 := cond_some hb3
    rcases hb3 with ⟨hc3, hb3⟩ | ⟨hc3, hb3⟩
    ·
     obtain rfl := hbb2.trans hc3
     refine cw_true Z (cw_region (lw_op Z Z Z (ow_move Z Z (lw_op Z Z Z (ow_move Z Z (lw_op Z Z Z (ow_nilCheck Z Z (lw_op Z Z Z (ow_loadOwn1 Z Z Z ho5 (Tryd.isAgg57 _) Z (lw_op Z Z Z (ow_move Z Z (lw_op Z Z Z (ow_move Z Z (lw_op Z Z Z (ow_build (v := .agg #[(.int .i64 a_chain), (.int .i64 k1)]) Z Z (by kernel_rfl) ?_)))))))))))))))
     have hw2 : VRep RVisit w5 M1 ({ Chain := a_chain, Place := k1 } : Visit) (.agg #[(.int .i64 a_chain), (.int .i64 k1)]) := shut_Visit
     refine lw_op Z Z Z (ow_buildSlice (R := RVisit) (xs := [({ Chain := a_chain, Place := k1 } : Visit)]) (cs := #[(.int .i64 a_chain), (.int .i64 k1)]) (e := 60) Z Z (by kernel_rfl) Z Z ⟨_, _, Z, hw2.cells, Z⟩ hC5 fun p7 w6 hw3 hb6 hl6 hC6 => ?_)
     have ho6 := ho5.no hb6
     have hr5 := hr4.no hb6
     replace hb3 := bind_some hb3
     obtain ⟨z1, hz1, hb3⟩ := hb3
     refine lw_op Z Z Z (ow_appendX (R := RVisit) (B := 0) Z Z Z Z Tryd.underlying57 hi60 hz60 hs60 hy60 Z Z Z Z hr5 hw3 hz1 hC6 (Nat.zero_le _) hge1 fun v11 w7 M2 hr6 hb7 hl7 hC7 hM1 hat1 => ?_)
     have ho7 := ho6.go hb7 (fun e => (orow_ne hr5 ho6 (by decide)) e)
     have hm2 := hM1 _ hm1
     have hge2 := ge_app hge1 hat1 hC6
     refine lw_op Z Z Z (ow_nilCheck Z Z ?_)
     obtain ⟨A1, c1, rfl⟩ := hr6.len
     refine lw_op0 Z Z (ow_store (X := (fun b => b = g ∨ vs0.ownBlock = some b)) (us := [(.slice A1 z1.length c1)]) (cs' := #[(.slice A1 z1.length c1)]) Z Z Z Z ho7 (Tryd.sizeOf57 _) Z Z Z Z hm2 (.inr (.inl Z)) Z hC7 fun w8 ho8 hb8 hl8 hC8 => ?_)
     have hr7 := hr6.go hb8 (fun k hk e => (orow_ne hr6 ho7 (by decide)) (hk.trans (congrArg some e))) hl8 (fun _ h => h)
     refine lw_nil (ew_then (cw_seq (cw_region (lw_op Z Z Z (ow_fieldAddr Z Z Tryd.underlying42 Z (Tryd.sizeOf3 _) ?_)))))
     have lz2 := (((hl5.trans hl6).trans hl7).trans hl8)
     refine lw_op Z Z Z (ow_load (R := RInt) Z Z (ARep.mono lz2 (hp6.fld fld_Rule_Action)) (Tryd.sizeOf3 _) (Tryd.isAgg3 _) fun v12 hv12 => ?_)
     obtain rfl := vint_eq hv12
     refine lw_nil (ew_then (cw_block (cw_seq (cw_seq (cw_region (lw_op Z Z Z (ow_eqlI Z Z Z fun bb3 hbb3 => lw_op Z Z Z (ow_assign Z Z (lw_nil (ew_then ?_))))))))))
     replace hb3 := cond_some hb3
     rcases hb3 with ⟨hc4, hb3⟩ | ⟨hc4, hb3⟩
     ·
      obtain rfl := hbb3.trans hc4
      refine cw_true Z (cw_skip (ew_then (cw_true Z (cw_seq (cw_region (lw_op Z Z Z (ow_fieldAddr Z Z Tryd.underlying42 Z (Tryd.sizeOf3 _) (lw_op Z Z Z (ow_load (R := RInt) Z Z (ARep.mono lz2 (hp6.fld fld_Rule_Action)) (Tryd.sizeOf3 _) (Tryd.isAgg3 _) fun v13 hv13 => ?_)))))))))
      obtain rfl := vint_eq hv13
      refine lw_op Z Z Z (ow_assign Z Z (lw_nil (ew_then (cw_ret (ew_blockR (ew_blockR (ew_thenR (ew_thenR (ew_blockR (ew_brkR (ew_thenR ?_)))))))))))
      have e1 := hR1 _ (Option.some.inj hb3).symm
      subst e1
      obtain rfl := Option.some.inj h
      exact ew_ret (res1 Z (.tmp Z)) ⟨_, Z, ((vint _)), M2, (.slice A1 z1.length c1), ho8, hr7, hC8, hge2⟩
     ·
      obtain rfl := hbb3.trans hc4
      refine cw_false Z (cw_region (lw_op Z Z Z (ow_eqlI Z Z Z fun bb4 hbb4 => lw_op Z Z Z (ow_assign Z Z (lw_nil (ew_then ?_))))))
      replace hb3 := cond_some hb3
      rcases hb3 with ⟨hc5, hb3⟩ | ⟨hc5, hb3⟩
      ·
       obtain rfl := hbb4.trans hc5
       refine cw_true Z (cw_seq (cw_region (lw_op Z Z Z (ow_fieldAddr Z Z Tryd.underlying42 Z (Tryd.sizeOf3 _) (lw_op Z Z Z (ow_load (R := RInt) Z Z (ARep.mono lz2 (hp6.fld fld_Rule_Action)) (Tryd.sizeOf3 _) (Tryd.isAgg3 _) fun v14 hv14 => ?_))))))
       obtain rfl := vint_eq hv14
       refine lw_op Z Z Z (ow_assign Z Z (lw_nil (ew_then (cw_ret (ew_blockR (ew_blockR (ew_thenR (ew_thenR (ew_blockR (ew_brkR (ew_thenR ?_)))))))))))
       have e2 := hR1 _ (Option.some.inj hb3).symm
       subst e2
       obtain rfl := Option.some.inj h
       exact ew_ret (res1 Z (.tmp Z)) ⟨_, Z, ((vint _)), M2, (.slice A1 z1.length c1), ho8, hr7, hC8, hge2⟩
      ·
       obtain rfl := hbb4.trans hc5
       refine cw_false Z (cw_seq (cw_region (lw_op Z Z Z (ow_eqlI Z Z Z fun bb5 hbb5 => lw_op Z Z Z (ow_assign Z Z (lw_nil (ew_then ?_)))))))
       replace hb3 := cond_some hb3
       rcases hb3 with ⟨hc6, hb3⟩ | ⟨hc6, hb3⟩
       ·
        obtain rfl := hbb5.trans hc6
        refine cw_true Z (cw_seq (cw_region (lw_op Z Z Z (ow_assign Z Z (lw_nil (ew_then (cw_ret (ew_blockR (ew_blockR (ew_thenR (ew_thenR (ew_blockR (ew_brkR (ew_thenR ?_))))))))))))))
        have e3 := hR1 _ (Option.some.inj hb3).symm
        subst e3
        obtain rfl := Option.some.inj h
        exact ew_ret (res1 Z (.tmp Z)) ⟨_, Z, ((vint _)), M2, (.slice A1 z1.length c1), ho8, hr7, hC8, hge2⟩
       ·
        obtain rfl := hbb5.trans hc6
        refine cw_false Z (cw_seq (cw_region (lw_op Z Z Z (ow_eqlI Z Z Z fun bb6 hbb6 => lw_op Z Z Z (ow_assign Z Z (lw_nil (ew_then ?_)))))))
        replace hb3 := cond_some hb3
        rcases hb3 with ⟨hc7, hb3⟩ | ⟨hc7, hb3⟩
        ·
         obtain rfl := hbb6.trans hc7
         refine cw_true Z (cw_seq (cw_region ?_))
         have lz3 := ((((((hl2.trans hl3).trans hl4).trans hl5).trans hl6).trans hl7).trans hl8)
         refine lw_op Z Z Z (ow_load (R := RRuleset) Z Z (ARep.mono lz3 hp1) (Tryd.sizeOf45 _) (Tryd.isAgg45 _) fun v15 hv15 => lw_op Z Z Z (ow_fieldAddr Z Z Tryd.underlying42 Z (Tryd.sizeOf3 _) (lw_op Z Z Z (ow_load (R := RInt) Z Z (ARep.mono lz2 (hp6.fld fld_Rule_Chain)) (Tryd.sizeOf3 _) (Tryd.isAgg3 _) fun v16 hv16 => ?_))))
         obtain rfl := vint_eq hv16
         have lz4 := (((((hl3.trans hl4).trans hl5).trans hl6).trans hl7).trans hl8)
         refine lw_op Z Z Z (ow_load (R := RPacket) Z Z (ARep.mono lz4 hp2) (Tryd.sizeOf38 _) (Tryd.isAgg38 _) fun v17 hv17 => lw_op Z Z Z (ow_move Z Z ?_))
         replace hb3 := bind_some hb3
         obtain ⟨x4, hx4, hb3⟩ := hb3
         have lz5 := ((((lz1.trans hl5).trans hl6).trans hl7).trans hl8)
         refine lw_op Z Z Z (ow_call Z Z Tryd.call64 (ih (hG.mono lz5) hC8.old hv15 hv17 (hr7.base (Nat.zero_le _)) ho8 hm2 hx4) fun v18 w9 hv18 => ?_)
         obtain ⟨hw4, M3, v19, ho9, hr8, hk1, hge3⟩ := hv18
         have hY1 : ∀ b, (fun b => b = g ∨ (Value.ownBlock (.slice A1 z1.length c1)) = some b) b → w.heap.size ≤ b ∨ (fun b => b = g ∨ vs0.ownBlock = some b) b := fun b e => (e.elim (fun e => by rw [show b = g from e]; exact (.inr (.inl Z))) (fun e => (hge2 b e)))
         have hl9 := hk1.leY (fun b e => (e.elim (fun e => by rw [show b = g from e]; exact hm2) (fun e => (hr7.mem b e))))
         have hC9 := hC8.trans2 hk1 hY1
         have hge4 : ∀ b, (Value.ownBlock v19) = some b → w.heap.size ≤ b ∨ (fun b => b = g ∨ vs0.ownBlock = some b) b := fun b e => (hge3 b e).elim (fun h => .inl (Nat.le_trans hC8.bx.size h)) (hY1 b)
         have hm3 := hk1.sup _ hm2
         obtain rfl := vint_eq hw4
         refine lw_op Z Z Z (ow_assign Z Z (lw_nil (ew_then (cw_seq (cw_region (lw_op Z Z Z (ow_move Z Z (lw_op Z Z Z (ow_neqI Z Z Z fun bb7 hbb7 => lw_nil (ew_then ?_))))))))))
         replace hb3 := cond_some hb3
         rcases hb3 with ⟨hc8, hb3⟩ | ⟨hc8, hb3⟩
         ·
          obtain rfl := hbb7.trans hc8
          refine cw_true Z (cw_seq (cw_region (lw_op Z Z Z (ow_move Z Z (lw_op Z Z Z (ow_assign Z Z (lw_nil (ew_then (cw_ret (ew_blockR (ew_blockR (ew_thenR (ew_thenR (ew_blockR (ew_brkR (ew_thenR ?_))))))))))))))))
          have e4 := hR1 _ (Option.some.inj hb3).symm
          subst e4
          obtain rfl := Option.some.inj h
          exact ew_ret (res1 Z (.tmp Z)) ⟨_, Z, ((vint _)), M3, v19, ho9, hr8, hC9, hge4⟩
         ·
          obtain rfl := hbb7.trans hc8
          exact cw_false Z (cw_skip (ew_blockN (ew_blockN (ew_then (cw_region (lw_op Z Z Z (ow_move Z Z (lw_op Z Z Z (ow_add Z Z Z (lw_op Z Z Z (ow_assign Z Z (lw_nil (ew_nxt ((W (k1 + 1)), x4.2) hb3 fun a ha => ⟨M3, v19, (ha.sub ⟨Z, Z, Z, Z, Z, trivial⟩), (lz4.trans hl9), hC9, hr8, ho9, hm3, hge4⟩)))))))))))))
        ·
         obtain rfl := hbb6.trans hc7
         refine cw_false Z (cw_skip (ew_blockN (ew_blockN (ew_then (cw_region (lw_op Z Z Z (ow_move Z Z (lw_op Z Z Z (ow_add Z Z Z (lw_op Z Z Z (ow_assign Z Z (lw_nil ?_))))))))))))
         have lz6 := (((((hl3.trans hl4).trans hl5).trans hl6).trans hl7).trans hl8)
         exact ew_nxt ((W (k1 + 1)), z1) hb3 fun a ha => ⟨M2, (.slice A1 z1.length c1), (ha.sub ⟨Z, Z, Z, Z, Z, trivial⟩), lz6, hC8, hr7, ho8, hm2, hge2⟩
    ·
     obtain rfl := hbb2.trans hc3
     refine cw_false Z (cw_skip (ew_then (cw_seq (cw_region (lw_op Z Z Z (ow_fieldAddr Z Z Tryd.underlying42 Z (Tryd.sizeOf3 _) (lw_op Z Z Z (ow_load (R := RInt) Z Z (ARep.mono hl5 (hp6.fld fld_Rule_Action)) (Tryd.sizeOf3 _) (Tryd.isAgg3 _) fun v20 hv20 => ?_))))))))
     obtain rfl := vint_eq hv20
     refine lw_nil (ew_then (cw_block (cw_seq (cw_seq (cw_region (lw_op Z Z Z (ow_eqlI Z Z Z fun bb8 hbb8 => lw_op Z Z Z (ow_assign Z Z (lw_nil (ew_then ?_))))))))))
     replace hb3 := cond_some hb3
     rcases hb3 with ⟨hc9, hb3⟩ | ⟨hc9, hb3⟩
     ·
      obtain rfl := hbb8.trans hc9
      refine cw_true Z (cw_skip (ew_then (cw_true Z (cw_seq (cw_region (lw_op Z Z Z (ow_fieldAddr Z Z Tryd.underlying42 Z (Tryd.sizeOf3 _) (lw_op Z Z Z (ow_load (R := RInt) Z Z (ARep.mono hl5 (hp6.fld fld_Rule_Action)) (Tryd.sizeOf3 _) (Tryd.isAgg3 _) fun v21 hv21 => ?_)))))))))
      obtain rfl := vint_eq hv21
      refine lw_op Z Z Z (ow_assign Z Z (lw_nil (ew_then (cw_ret (ew_blockR (ew_blockR (ew_thenR (ew_thenR (ew_blockR (ew_brkR (ew_thenR ?_)))))))))))
      have e5 := hR1 _ (Option.some.inj hb3).symm
      subst e5
      obtain rfl := Option.some.inj h
      exact ew_ret (res1 Z (.tmp Z)) ⟨_, Z, ((vint _)), M1, v2, ho5, hr4, hC5, hge1⟩
     ·
      obtain rfl := hbb8.trans hc9
      refine cw_false Z (cw_region (lw_op Z Z Z (ow_eqlI Z Z Z fun bb9 hbb9 => lw_op Z Z Z (ow_assign Z Z (lw_nil (ew_then ?_))))))
      replace hb3 := cond_some hb3
      rcases hb3 with ⟨hc10, hb3⟩ | ⟨hc10, hb3⟩
      ·
       obtain rfl := hbb9.trans hc10
       refine cw_true Z (cw_seq (cw_region (lw_op Z Z Z (ow_fieldAddr Z Z Tryd.underlying42 Z (Tryd.sizeOf3 _) (lw_op Z Z Z (ow_load (R := RInt) Z Z (ARep.mono hl5 (hp6.fld fld_Rule_Action)) (Tryd.sizeOf3 _) (Tryd.isAgg3 _) fun v22 hv22 => ?_))))))
       obtain rfl := vint_eq hv22
       refine lw_op Z Z Z (ow_assign Z Z (lw_nil (ew_then (cw_ret (ew_blockR (ew_blockR (ew_thenR (ew_thenR (ew_blockR (ew_brkR (ew_thenR ?_)))))))))))
       have e6 := hR1 _ (Option.some.inj hb3).symm
       subst e6
       obtain rfl := Option.some.inj h
       exact ew_ret (res1 Z (.tmp Z)) ⟨_, Z, ((vint _)), M1, v2, ho5, hr4, hC5, hge1⟩
      ·
       obtain rfl := hbb9.trans hc10
       refine cw_false Z (cw_seq (cw_region (lw_op Z Z Z (ow_eqlI Z Z Z fun bb10 hbb10 => lw_op Z Z Z (ow_assign Z Z (lw_nil (ew_then ?_)))))))
       replace hb3 := cond_some hb3
       rcases hb3 with ⟨hc11, hb3⟩ | ⟨hc11, hb3⟩
       ·
        obtain rfl := hbb10.trans hc11
        refine cw_true Z (cw_seq (cw_region (lw_op Z Z Z (ow_assign Z Z (lw_nil (ew_then (cw_ret (ew_blockR (ew_blockR (ew_thenR (ew_thenR (ew_blockR (ew_brkR (ew_thenR ?_))))))))))))))
        have e7 := hR1 _ (Option.some.inj hb3).symm
        subst e7
        obtain rfl := Option.some.inj h
        exact ew_ret (res1 Z (.tmp Z)) ⟨_, Z, ((vint _)), M1, v2, ho5, hr4, hC5, hge1⟩
       ·
        obtain rfl := hbb10.trans hc11
        refine cw_false Z (cw_seq (cw_region (lw_op Z Z Z (ow_eqlI Z Z Z fun bb11 hbb11 => lw_op Z Z Z (ow_assign Z Z (lw_nil (ew_then ?_)))))))
        replace hb3 := cond_some hb3
        rcases hb3 with ⟨hc12, hb3⟩ | ⟨hc12, hb3⟩
        ·
         obtain rfl := hbb11.trans hc12
         refine cw_true Z (cw_seq (cw_region ?_))
         have lz7 := (((hl2.trans hl3).trans hl4).trans hl5)
         refine lw_op Z Z Z (ow_load (R := RRuleset) Z Z (ARep.mono lz7 hp1) (Tryd.sizeOf45 _) (Tryd.isAgg45 _) fun v23 hv23 => lw_op Z Z Z (ow_fieldAddr Z Z Tryd.underlying42 Z (Tryd.sizeOf3 _) (lw_op Z Z Z (ow_load (R := RInt) Z Z (ARep.mono hl5 (hp6.fld fld_Rule_Chain)) (Tryd.sizeOf3 _) (Tryd.isAgg3 _) fun v24 hv24 => ?_))))
         obtain rfl := vint_eq hv24
         have lz8 := ((hl3.trans hl4).trans hl5)
         refine lw_op Z Z Z (ow_load (R := RPacket) Z Z (ARep.mono lz8 hp2) (Tryd.sizeOf38 _) (Tryd.isAgg38 _) fun v25 hv25 => lw_op Z Z Z (ow_move Z Z ?_))
         replace hb3 := bind_some hb3
         obtain ⟨x5, hx5, hb3⟩ := hb3
         refine lw_op Z Z Z (ow_call Z Z Tryd.call64 (ih (hG.mono (lz1.trans hl5)) hC5.old hv23 hv25 (hr4.base (Nat.zero_le _)) ho5 hm1 hx5) fun v26 w10 hv26 => ?_)
         obtain ⟨hw5, M4, v27, ho10, hr9, hk2, hge5⟩ := hv26
         have hY2 : ∀ b, (fun b => b = g ∨ (Value.ownBlock v2) = some b) b → w.heap.size ≤ b ∨ (fun b => b = g ∨ vs0.ownBlock = some b) b := fun b e => (e.elim (fun e => by rw [show b = g from e]; exact (.inr (.inl Z))) (fun e => (hge1 b e)))
         have hl10 := hk2.leY (fun b e => (e.elim (fun e => by rw [show b = g from e]; exact hm1) (fun e => (hr4.mem b e))))
         have hC10 := hC5.trans2 hk2 hY2
         have hge6 : ∀ b, (Value.ownBlock v27) = some b → w.heap.size ≤ b ∨ (fun b => b = g ∨ vs0.ownBlock = some b) b := fun b e => (hge5 b e).elim (fun h => .inl (Nat.le_trans hC5.bx.size h)) (hY2 b)
         have hm4 := hk2.sup _ hm1
         obtain rfl := vint_eq hw5
         refine lw_op Z Z Z (ow_assign Z Z (lw_nil (ew_then (cw_seq (cw_region (lw_op Z Z Z (ow_move Z Z (lw_op Z Z Z (ow_neqI Z Z Z fun bb12 hbb12 => lw_nil (ew_then ?_))))))))))
         replace hb3 := cond_some hb3
         rcases hb3 with ⟨hc13, hb3⟩ | ⟨hc13, hb3⟩
         ·
          obtain rfl := hbb12.trans hc13
          refine cw_true Z (cw_seq (cw_region (lw_op Z Z Z (ow_move Z Z (lw_op Z Z Z (ow_assign Z Z (lw_nil (ew_then (cw_ret (ew_blockR (ew_blockR (ew_thenR (ew_thenR (ew_blockR (ew_brkR (ew_thenR ?_))))))))))))))))
          have e8 := hR1 _ (Option.some.inj hb3).symm
          subst e8
          obtain rfl := Option.some.inj h
          exact ew_ret (res1 Z (.tmp Z)) ⟨_, Z, ((vint _)), M4, v27, ho10, hr9, hC10, hge6⟩
         ·
          obtain rfl := hbb12.trans hc13
          exact cw_false Z (cw_skip (ew_blockN (ew_blockN (ew_then (cw_region (lw_op Z Z Z (ow_move Z Z (lw_op Z Z Z (ow_add Z Z Z (lw_op Z Z Z (ow_assign Z Z (lw_nil (ew_nxt ((W (k1 + 1)), x5.2) hb3 fun a ha => ⟨M4, v27, (ha.sub ⟨Z, Z, Z, Z, Z, trivial⟩), (lz8.trans hl10), hC10, hr9, ho10, hm4, hge6⟩)))))))))))))
        ·
         obtain rfl := hbb11.trans hc12
         refine cw_false Z (cw_skip (ew_blockN (ew_blockN (ew_then (cw_region (lw_op Z Z Z (ow_move Z Z (lw_op Z Z Z (ow_add Z Z Z (lw_op Z Z Z (ow_assign Z Z (lw_nil ?_))))))))))))
         have lz9 := ((hl3.trans hl4).trans hl5)
         exact ew_nxt ((W (k1 + 1)), y1) hb3 fun a ha => ⟨M1, v2, (ha.sub ⟨Z, Z, Z, Z, Z, trivial⟩), lz9, hC5, hr4, ho5, hm1, hge1⟩
   ·
    subst hc2
    refine cw_true Z (cw_exit (ew_thenX (ew_blockX (ew_then (cw_region (lw_op Z Z Z (ow_move Z Z (lw_op Z Z Z (ow_add Z Z Z (lw_op Z Z Z (ow_assign Z Z (lw_nil ?_))))))))))))
    have lz10 := ((hl3.trans hl4).trans hl5)
    exact ew_nxt ((W (k1 + 1)), y1) hb3 fun a ha => ⟨M1, v2, (ha.sub ⟨Z, Z, Z, Z, Z, trivial⟩), lz10, hC5, hr4, ho5, hm1, hge1⟩
  ·
   obtain rfl := hbb1.trans hc1
   exact cw_false Z (cw_exit (ew_thenX (ew_thenX (ew_blockX (ew_brk (k1, y1) hb3 fun a ha => ⟨M1, v2, (ha.sub ⟨Z, Z, Z, Z, Z, trivial⟩), hl3, hC3, hw1, ho3, hm1, hge1⟩)))))
 ·
  rintro ⟨k2, y2⟩ a w11 hlr2 ⟨M5, v29, hF2, hl11, hC11, hw6, ho11, hm5, hge7⟩
  subst hlr2
  refine ew_at (E := [(1, (.int .i64 a_chain)), (3, (.pointer (some ⟨g, 0, none⟩))), (4, (.pointer (some p1))), (6, (.pointer (some p2))), (9, (.int .i64 k2))]) hF2 (ew_then (cw_seq (cw_region (lw_op Z Z Z (ow_assign Z Z (lw_nil (ew_then (cw_ret ?_))))))))
  obtain rfl := Option.some.inj h
  exact ew_ret (res1 Z (.tmp Z)) ⟨_, Z, ((vint _)), M5, v29, ho11, hw6, hC11, hge7⟩

theorem w_spec_JudgeTrace {w : World} {M : Nat → Prop} (hG : ARep (RArr 4 RShape) w M shapes ⟨0, 0, none⟩) (hO : ∀ b, M b → b < w.heap.size) {v0p : Value} {a_s : Ruleset} (h0 : VRep RRuleset w M a_s v0p) {v1p : Value} {a_p : Packet} (h1 : VRep RPacket w M a_p v1p) {r : (List Visit)} (h : F.spec_JudgeTrace a_s a_p = some r) :
  Calls Tryd.prog 44 [v0p, v1p].toArray w fun e w' => ∃ v, e = .returned v ∧ VRep (RSlice RVisit) w' M r v ∧ BX No w w' := by
 have hC : Cx No w M w M := Cx.start hO (fun _ e => e.elim)
 refine walk (N := 17) Tryd.func44 Z Tryd.ntmps44 Z (cw_seq (cw_region (lw_op Z Z Z (ow_box (R := RRuleset) Z Z h0 hC fun p1 w1 hp1 hb1 hl1 hC1 => lw_op Z Z Z (ow_box (R := RPacket) Z Z (VRep.mono hl1 h1) hC1 fun p2 w2 hp2 hb2 hl2 hC2 => lw_op Z Z Z (ow_assign Z Z (lw_nil (ew_then (cw_seq (cw_region (lw_op Z Z Z (ow_buildSlice0 (R := RVisit) (e := 60) Z (by kernel_rfl) hC2 fun p3 w3 M1 hr1 hb3 hl3 hC3 hM1 hat1 => lw_op Z Z Z (ow_alloc Z (Tryd.zeroValue57 _) hC3 fun g1 w4 hg1 hg2 ho1 hb4 hl4 hC4 => ?_)))))))))))))
 have hr2 := hr1.add hb4 hg1
 have hm1 : (Add g1 M1) g1 := .inl Z
 refine lw_op0 Z Z (ow_store (X := No) (us := [(.slice (some p3) 0 0)]) (cs' := #[(.slice (some p3) 0 0)]) Z Z Z Z ho1 (Tryd.sizeOf57 _) Z Z Z Z hm1 (.inl hg2) Z hC4 fun w5 ho2 hb5 hl5 hC5 => ?_)
 have hr3 := hr2.go hb5 (fun k hk e => (orow_ne hr2 ho1 (by decide)) (hk.trans (congrArg some e))) hl5 (fun _ h => h)
 refine lw_nil (ew_then (cw_seq (cw_seq (cw_region ?_))))
 have lz1 := (((hl2.trans hl3).trans hl4).trans hl5)
 refine lw_op Z Z Z (ow_load (R := RRuleset) Z Z (ARep.mono lz1 hp1) (Tryd.sizeOf45 _) (Tryd.isAgg45 _) fun v1 hv1 => ?_)
 replace h := bind_some h
 obtain ⟨x1, hx1, h⟩ := h
 have lz2 := ((((hl1.trans hl2).trans hl3).trans hl4).trans hl5)
 refine lw_op Z Z Z (ow_call Z Z Tryd.call26 (w_spec_RulesetValid (hG.mono lz2) hC5.old hv1 hx1) fun v2 w6 hv2 => ?_)
 obtain ⟨hv2, hb6⟩ := hv2
 have hl6 := Le.no (Add g1 M1) hb6
 have hC6 := hC5.no hb6
 have ho3 := ho2.no hb6
 have hr4 := hr3.no hb6
 obtain rfl := vbool_eq hv2
 refine lw_op Z Z Z (ow_move Z Z ?_)
 replace h := cond_some h
 rcases h with ⟨hc1, h⟩ | ⟨hc1, h⟩
 ·
  subst hc1
  have lz3 := (((hl3.trans hl4).trans hl5).trans hl6)
  refine lw_on Z Z Z Z Z Z (ow_load (R := RPacket) Z Z (ARep.mono lz3 hp2) (Tryd.sizeOf38 _) (Tryd.isAgg38 _) fun v3 hv3 => ?_)
  replace h := bind_some h
  obtain ⟨x2, hx2, h⟩ := h
  refine lw_on Z Z Z Z Z Z (ow_call Z Z Tryd.call41 (w_spec_PacketValid (hG.mono (lz2.trans hl6)) hC6.old hv3 hx2) fun v4 w7 hv4 => ?_)
  obtain ⟨hv4, hb7⟩ := hv4
  have hl7 := Le.no (Add g1 M1) hb7
  have hC7 := hC6.no hb7
  have ho4 := ho3.no hb7
  have hr5 := hr4.no hb7
  obtain rfl := vbool_eq hv4
  refine lw_op Z Z Z (ow_pickT Z Z Z (lw_nil (ew_then ?_)))
  replace h := cond_some h
  rcases h with ⟨hc2, h⟩ | ⟨hc2, h⟩
  ·
   subst hc2
   refine cw_true Z (cw_region ?_)
   have lz4 := ((lz1.trans hl6).trans hl7)
   refine lw_op Z Z Z (ow_load (R := RRuleset) Z Z (ARep.mono lz4 hp1) (Tryd.sizeOf45 _) (Tryd.isAgg45 _) fun v5 hv5 => lw_op Z Z Z (ow_load (R := RPacket) Z Z (ARep.mono (lz3.trans hl7) hp2) (Tryd.sizeOf38 _) (Tryd.isAgg38 _) fun v6 hv6 => ?_))
   replace h := bind_some h
   obtain ⟨x3, hx3, h⟩ := h
   have lz5 := ((lz2.trans hl6).trans hl7)
   refine lw_op Z Z Z (ow_call Z Z Tryd.call64 (w_spec_l9Walk 10 (hG.mono lz5) hC7.old hv5 hv6 (hr5.base (Nat.zero_le _)) ho4 hm1 hx3) fun v7 w8 hv7 => ?_)
   obtain ⟨hw1, M2, v8, ho5, hr6, hk1, hge1⟩ := hv7
   have hY1 : ∀ b, (fun b => b = g1 ∨ (Value.ownBlock (.slice (some p3) 0 0)) = some b) b → w.heap.size ≤ b ∨ No b := fun b e => (e.elim (fun e => by rw [show b = g1 from e]; exact (.inl hg2)) (fun e => ((fun b e => .inl (hr5.block e).1) b e)))
   have hC8 := hC7.trans2 hk1 hY1
   have hr7 := hr6.raise (B' := w.heap.size) (fun b e => (hge1 b e).elim (fun h => Nat.le_trans hC7.bx.size h) (fun e => (e.elim (fun e => by rw [show b = g1 from e]; exact hg2) (fun e => ((hr5.block e).1)))))
   obtain rfl := vint_eq hw1
   refine lw_nil (ew_then (cw_seq (cw_region (lw_op Z Z Z (ow_loadOwn1 Z Z Z ho5 (Tryd.isAgg57 _) Z (lw_op Z Z Z (ow_assign Z Z (lw_nil (ew_then (cw_ret ?_))))))))))
   obtain rfl := Option.some.inj h
   exact ew_ret (res1 Z (.tmp Z)) ⟨_, Z, (hr7.freezeBack hC8 hO), hC8.bx⟩
  ·
   subst hc2
   refine cw_false Z (cw_skip (ew_then (cw_seq (cw_region (lw_op Z Z Z (ow_loadOwn1 Z Z Z ho4 (Tryd.isAgg57 _) Z (lw_op Z Z Z (ow_assign Z Z (lw_nil (ew_then (cw_ret ?_)))))))))))
   obtain rfl := Option.some.inj h
   exact ew_ret (res1 Z (.tmp Z)) ⟨_, Z, (hr5.freezeBack hC7 hO), hC7.bx⟩
 ·
  subst hc1
  refine lw_off Z Z Z Z Z Z (lw_off Z Z Z Z Z Z (lw_op Z Z Z (ow_pickF Z Z Z (lw_nil (ew_then (cw_false Z (cw_skip (ew_then (cw_seq (cw_region (lw_op Z Z Z (ow_loadOwn1 Z Z Z ho3 (Tryd.isAgg57 _) Z (lw_op Z Z Z (ow_assign Z Z (lw_nil (ew_then (cw_ret ?_)))))))))))))))))
  obtain rfl := Option.some.inj h
  exact ew_ret (res1 Z (.tmp Z)) ⟨_, Z, (hr4.freezeBack hC6 hO), hC6.bx⟩

theorem w_impl_RuleFits {w : World} {M : Nat → Prop} (hG : ARep (RArr 4 RShape) w M shapes ⟨0, 0, none⟩) (hO : ∀ b, M b → b < w.heap.size) {v0p : Value} {a_r : Rule} (h0 : VRep RRule w M a_r v0p) {v1p : Value} {a_p : Packet} (h1 : VRep RPacket w M a_p v1p) {r : Bool} (h : F.impl_RuleFits a_r a_p = some r) :
  Calls Tryd.prog 45 [v0p, v1p].toArray w fun e w' => ∃ v, e = .returned v ∧ VRep RBool w' M r v ∧ BX No w w' := by
 have hC : Cx No w M w M := Cx.start hO (fun _ e => e.elim)
 refine walk (N := 17) Tryd.func45 Z Tryd.ntmps45 Z (cw_seq (cw_region (lw_op Z Z Z (ow_box (R := RRule) Z Z h0 hC fun p1 w1 hp1 hb1 hl1 hC1 => lw_op Z Z Z (ow_box (R := RPacket) Z Z (VRep.mono hl1 h1) hC1 fun p2 w2 hp2 hb2 hl2 hC2 => lw_op Z Z Z (ow_assign Z Z (lw_nil (ew_then (cw_seq (cw_region (lw_op Z Z Z (ow_load (R := RRule) Z Z (ARep.mono hl2 hp1) (Tryd.sizeOf42 _) (Tryd.isAgg42 _) fun v1 hv1 => ?_))))))))))))
 replace h := bind_some h
 obtain ⟨x1, hx1, h⟩ := h
 refine lw_op Z Z Z (ow_call Z Z Tryd.call76 (w_impl_RuleValid (hG.mono (hl1.trans hl2)) hC2.old hv1 hx1) fun v2 w3 hv2 => ?_)
 obtain ⟨hv2, hb3⟩ := hv2
 have hl3 := Le.no M hb3
 have hC3 := hC2.no hb3
 obtain rfl := vbool_eq hv2
 refine lw_op Z Z Z (ow_move Z Z ?_)
 replace h := cond_some h
 rcases h with ⟨hc1, h⟩ | ⟨hc1, h⟩
 ·
  subst hc1
  refine lw_on Z Z Z Z Z Z (ow_load (R := RPacket) Z Z (ARep.mono hl3 hp2) (Tryd.sizeOf38 _) (Tryd.isAgg38 _) fun v3 hv3 => ?_)
  replace h := bind_some h
  obtain ⟨x2, hx2, h⟩ := h
  have lz1 := ((hl1.trans hl2).trans hl3)
  refine lw_on Z Z Z Z Z Z (ow_call Z Z Tryd.call62 (w_impl_PacketValid (hG.mono lz1) hC3.old hv3 hx2) fun v4 w4 hv4 => ?_)
  obtain ⟨hv4, hb4⟩ := hv4
  have hl4 := Le.no M hb4
  have hC4 := hC3.no hb4
  obtain rfl := vbool_eq hv4
  refine lw_op Z Z Z (ow_pickT Z Z Z (lw_op Z Z Z (ow_move Z Z ?_)))
  replace h := cond_some h
  rcases h with ⟨hc2, h⟩ | ⟨hc2, h⟩
  ·
   subst hc2
   refine lw_on Z Z Z Z Z Z (ow_fieldAddr Z Z Tryd.underlying42 Z (Tryd.sizeOf27 _) ?_)
   have lz2 := ((hl2.trans hl3).trans hl4)
   refine lw_on Z Z Z Z Z Z (ow_load (R := (RSlice RTest)) Z Z (ARep.mono lz2 (hp1.fld fld_Rule_Tests)) (Tryd.sizeOf27 _) (Tryd.isAgg27 _) fun v5 hv5 => lw_on Z Z Z Z Z Z (ow_load (R := RPacket) Z Z (ARep.mono (hl3.trans hl4) hp2) (Tryd.sizeOf38 _) (Tryd.isAgg38 _) fun v6 hv6 => ?_))
   replace h := bind_some h
   obtain ⟨x3, hx3, h⟩ := h
   refine lw_on Z Z Z Z Z Z (ow_call Z Z Tryd.call77 (w_impl_allHold (hG.mono (lz1.trans hl4)) hC4.old hv5 hv6 hx3) fun v7 w5 hv7 => ?_)
   obtain ⟨hv7, hb5⟩ := hv7
   have hC5 := hC4.no hb5
   obtain rfl := vbool_eq hv7
   refine lw_op Z Z Z (ow_pickT Z Z Z (lw_op Z Z Z (ow_assign Z Z (lw_nil (ew_then (cw_ret ?_))))))
   obtain rfl := Option.some.inj h
   exact ew_ret (res1 Z (.tmp Z)) ⟨_, Z, ((vbool _)), hC5.bx⟩
  ·
   subst hc2
   refine lw_off Z Z Z Z Z Z (lw_off Z Z Z Z Z Z (lw_off Z Z Z Z Z Z (lw_off Z Z Z Z Z Z (lw_op Z Z Z (ow_pickF Z Z Z (lw_op Z Z Z (ow_assign Z Z (lw_nil (ew_then (cw_ret ?_))))))))))
   obtain rfl := Option.some.inj h
   exact ew_ret (res1 Z (.tmp Z)) ⟨_, Z, ((vbool _)), hC4.bx⟩
 ·
  subst hc1
  refine lw_off Z Z Z Z Z Z (lw_off Z Z Z Z Z Z (lw_op Z Z Z (ow_pickF Z Z Z (lw_op Z Z Z (ow_move Z Z (lw_off Z Z Z Z Z Z (lw_off Z Z Z Z Z Z (lw_off Z Z Z Z Z Z (lw_off Z Z Z Z Z Z (lw_op Z Z Z (ow_pickF Z Z Z (lw_op Z Z Z (ow_assign Z Z (lw_nil (ew_then (cw_ret ?_))))))))))))))))
  obtain rfl := Option.some.inj h
  exact ew_ret (res1 Z (.tmp Z)) ⟨_, Z, ((vbool _)), hC3.bx⟩

theorem w_laws_FnJudgeTrace {w : World} {M : Nat → Prop} (hG : ARep (RArr 4 RShape) w M shapes ⟨0, 0, none⟩) (hO : ∀ b, M b → b < w.heap.size) {v0p : Value} {a_code : List Int} (h0 : VRep (RSlice RU8) w M a_code v0p) {r : Bool} (h : F.laws_FnJudgeTrace a_code = some r) :
  Calls Tryd.prog 14 [v0p].toArray w fun e w' => ∃ v, e = .returned v ∧ VRep RBool w' M r v ∧ BX No w w' := by
 have hC : Cx No w M w M := Cx.start hO (fun _ e => e.elim)
 refine walk (N := 128) Tryd.func14 Z Tryd.ntmps14 Z (cw_seq (cw_region (lw_op Z Z Z (ow_assign Z Z (lw_nil (ew_then (cw_seq (cw_seq (cw_region (lw_op Z Z Z (ow_move Z Z (lw_op Z Z Z (ow_len Z Z h0 Tryd.underlying22 Z (lw_op Z Z Z (ow_gtr Z Z Z fun bb1 hbb1 => lw_nil (ew_then ?_))))))))))))))))
 replace h := cond_some h
 rcases h with ⟨hc1, h⟩ | ⟨hc1, h⟩
 ·
  obtain rfl := hbb1.trans hc1
  refine cw_true Z (cw_seq (cw_region (lw_op Z Z Z (ow_assign Z Z (lw_nil (ew_then (cw_ret (ew_thenR ?_))))))))
  obtain rfl := Option.some.inj h
  exact ew_ret (res1 Z (.tmp Z)) ⟨_, Z, ((vbool _)), hC.bx⟩
 ·
  obtain rfl := hbb1.trans hc1
  refine cw_false Z (cw_skip (ew_then (cw_seq (cw_region (lw_op Z Z Z (ow_move Z Z ?_))))))
  replace h := bind_some h
  obtain ⟨x1, hx1, h⟩ := h
  refine lw_op Z Z Z (ow_call Z Z Tryd.call43 (w_spec_DrawJudgeTrace hG hC.old h0 hx1) fun v1 w1 hv1 => ?_)
  obtain ⟨⟨v2, v3, rfl, hv2, hv3⟩, hb1⟩ := hv1
  have hl1 := Le.no M hb1
  have hC1 := hC.no hb1
  refine lw_op Z Z Z (ow_move Z Z (lw_op Z Z Z (ow_extract Z Z Z (lw_op Z Z Z (ow_extract Z Z Z (lw_op Z Z Z (ow_alloc Z (Tryd.zeroValue45 _) hC1 fun g1 w2 hg1 hg2 ho1 hb2 hl2 hC2 => ?_)))))))
  have hm1 : (Add g1 M) g1 := .inl Z
  refine lw_op Z Z Z (ow_alloc Z (Tryd.zeroValue38 _) hC2 fun g2 w3 hg3 hg4 ho2 hb3 hl3 hC3 => ?_)
  have hn1 := Nat.ne_of_lt (Nat.lt_of_lt_of_le ho1.lt hg3)
  have ho3 := ho1.no hb3
  have hm2 : (Add g2 (Add g1 M)) g1 := .inr hm1
  have hm3 : (Add g2 (Add g1 M)) g2 := .inl Z
  obtain ⟨A1, c1, rfl, hw1⟩ := open_Ruleset hv2
  refine lw_op0 Z Z (ow_store (X := No) (us := [(.slice A1 x1.1.Chains.length c1), (.bool x1.1.Accept)]) (cs' := #[(.slice A1 x1.1.Chains.length c1), (.bool x1.1.Accept)]) Z Z Z Z ho3 (Tryd.sizeOf45 _) Z Z Z Z hm2 (.inl hg2) Z hC3 fun w4 ho4 hb4 hl4 hC4 => ?_)
  have ho5 := ho2.go hb4 (fun e => hn1 e.symm)
  obtain rfl := open_Packet hv3
  refine lw_op0 Z Z (ow_store (X := No) (us := [(.int .i64 x1.2.From), (.int .i64 x1.2.To), (.int .i64 x1.2.Port), (.int .i64 x1.2.Proto)]) (cs' := #[(.int .i64 x1.2.From), (.int .i64 x1.2.To), (.int .i64 x1.2.Port), (.int .i64 x1.2.Proto)]) Z Z Z Z ho5 (Tryd.sizeOf38 _) Z Z Z Z hm3 (.inl hg4) Z hC4 fun w5 ho6 hb5 hl5 hC5 => ?_)
  have ho7 := ho4.go hb5 (fun e => hn1 e)
  refine lw_nil (ew_then (cw_seq (cw_region (lw_op Z Z Z (ow_loadOwnA Z Z Z ho7 (Tryd.isAgg45 _) (Tryd.sizeOf45 _) Z ?_)))))
  have lz1 := (((hl2.trans hl3).trans hl4).trans hl5)
  have hw2 : VRep RRuleset w5 (Add g2 (Add g1 M)) ({ Chains := x1.1.Chains, Accept := x1.1.Accept } : Ruleset) (.agg #[(.slice A1 x1.1.Chains.length c1), (.bool x1.1.Accept)]) := shut_Ruleset (VRep.mono lz1 hw1)
  refine lw_op Z Z Z (ow_loadOwnA Z Z Z ho6 (Tryd.isAgg38 _) (Tryd.sizeOf38 _) Z ?_)
  have hw3 : VRep RPacket w5 (Add g2 (Add g1 M)) ({ From := x1.2.From, To := x1.2.To, Port := x1.2.Port, Proto := x1.2.Proto } : Packet) (.agg #[(.int .i64 x1.2.From), (.int .i64 x1.2.To), (.int .i64 x1.2.Port), (.int .i64 x1.2.Proto)]) := shut_Packet
  replace h := bind_some h
  obtain ⟨x2, hx2, h⟩ := h
  have lz2 := ((((hl1.trans hl2).trans hl3).trans hl4).trans hl5)
  refine lw_op Z Z Z (ow_call Z Z Tryd.call37 (w_impl_JudgeTrace (hG.mono lz2) hC5.old hw2 hw3 hx2) fun v4 w6 hv4 => ?_)
  obtain ⟨hv4, hb6⟩ := hv4
  have hl6 := Le.no (Add g2 (Add g1 M)) hb6
  have hC6 := hC5.no hb6
  have ho8 := ho7.no hb6
  have ho9 := ho6.no hb6
  refine lw_op Z Z Z (ow_assign Z Z (lw_nil (ew_then (cw_seq (cw_region (lw_op Z Z Z (ow_loadOwnA Z Z Z ho8 (Tryd.isAgg45 _) (Tryd.sizeOf45 _) Z ?_)))))))
  have hw4 : VRep RRuleset w6 (Add g2 (Add g1 M)) ({ Chains := x1.1.Chains, Accept := x1.1.Accept } : Ruleset) (.agg #[(.slice A1 x1.1.Chains.length c1), (.bool x1.1.Accept)]) := shut_Ruleset (VRep.mono (lz1.trans hl6) hw1)
  refine lw_op Z Z Z (ow_loadOwnA Z Z Z ho9 (Tryd.isAgg38 _) (Tryd.sizeOf38 _) Z ?_)
  have hw5 : VRep RPacket w6 (Add g2 (Add g1 M)) ({ From := x1.2.From, To := x1.2.To, Port := x1.2.Port, Proto := x1.2.Proto } : Packet) (.agg #[(.int .i64 x1.2.From), (.int .i64 x1.2.To), (.int .i64 x1.2.Port), (.int .i64 x1.2.Proto)]) := shut_Packet
  replace h := bind_some h
  obtain ⟨x3, hx3, h⟩ := h
  refine lw_op Z Z Z (ow_call Z Z Tryd.call44 (w_spec_JudgeTrace (hG.mono (lz2.trans hl6)) hC6.old hw4 hw5 hx3) fun v5 w7 hv5 => ?_)
  obtain ⟨hv5, hb7⟩ := hv5
  have hl7 := Le.no (Add g2 (Add g1 M)) hb7
  have hC7 := hC6.no hb7
  have ho10 := ho8.no hb7
  have ho11 := ho9.no hb7
  refine lw_op Z Z Z (ow_assign Z Z (lw_nil (ew_then (cw_seq (cw_seq (cw_region (lw_op Z Z Z (ow_move Z Z (lw_op Z Z Z (ow_len Z Z (VRep.mono hl7 hv4) Tryd.underlying57 Z (lw_op Z Z Z (ow_move Z Z (lw_op Z Z Z (ow_len Z Z hv5 Tryd.underlying57 Z (lw_op Z Z Z (ow_neqI Z Z Z fun bb2 hbb2 => lw_nil (ew_then ?_)))))))))))))))))
  replace h := cond_some h
  rcases h with ⟨hc2, h⟩ | ⟨hc2, h⟩
  ·
   obtain rfl := hbb2.trans hc2
   refine cw_true Z (cw_seq (cw_region (lw_op Z Z Z (ow_assign Z Z (lw_nil (ew_then (cw_ret (ew_thenR ?_))))))))
   obtain rfl := Option.some.inj h
   exact ew_ret (res1 Z (.tmp Z)) ⟨_, Z, ((vbool _)), hC7.bx⟩
  ·
   obtain rfl := hbb2.trans hc2
   refine cw_false Z (cw_skip (ew_then (cw_seq (cw_seq (cw_region (lw_op Z Z Z (ow_assign Z Z (lw_nil (ew_then ?_)))))))))
   replace h := bind_some h
   obtain ⟨lr1, hlr1, h⟩ := h
   refine cw_for hlr1 (fun s a w' => ∃ (M' : Nat → Prop), Fits 128 [(3, (.pointer (some ⟨g1, 0, none⟩))), (4, (.pointer (some ⟨g2, 0, none⟩))), (5, v4), (6, v5), (7, (.int .i64 s))] a ∧ Le w7 (Add g2 (Add g1 M)) w' M' ∧ Cx No w M w' M' ∧ Own w' g1 45 #[(.slice A1 x1.1.Chains.length c1), (.bool x1.1.Accept)] ∧ M' g1 ∧ Own w' g2 38 #[(.int .i64 x1.2.From), (.int .i64 x1.2.To), (.int .i64 x1.2.Port), (.int .i64 x1.2.Proto)] ∧ M' g2) ?_ ?_ ?_
   ·
    intro a ha
    exact ⟨(Add g2 (Add g1 M)), ha.sub ⟨Z, Z, Z, Z, Z, trivial⟩, Le.refl _ _, hC7, ho10, hm2, ho11, hm3⟩
   ·
    rintro k1 a w8 sr1 ⟨M1, hF1, hl8, hC8, ho12, hm4, ho13, hm5⟩ hb8 hR1
    refine cw_at (E := [(3, (.pointer (some ⟨g1, 0, none⟩))), (4, (.pointer (some ⟨g2, 0, none⟩))), (5, v4), (6, v5), (7, (.int .i64 k1))]) hF1 (cw_seq (cw_seq (cw_region (lw_op Z Z Z (ow_move Z Z (lw_op Z Z Z (ow_move Z Z (lw_op Z Z Z (ow_len Z Z (VRep.mono (hl7.trans hl8) hv4) Tryd.underlying57 Z (lw_op Z Z Z (ow_lss Z Z Z fun bb3 hbb3 => lw_nil (ew_then ?_))))))))))))
    replace hb8 := cond_some hb8
    rcases hb8 with ⟨hc3, hb8⟩ | ⟨hc3, hb8⟩
    ·
     obtain rfl := hbb3.trans hc3
     refine cw_true Z (cw_skip (ew_then (cw_seq (cw_block (cw_seq (cw_region (lw_op Z Z Z (ow_move Z Z (lw_op Z Z Z (ow_move Z Z ?_))))))))))
     replace hb8 := bind_some hb8
     obtain ⟨x4, hx4, hb8⟩ := hb8
     refine lw_op Z Z Z (ow_indexSlice (R := RVisit) Z Z Z (VRep.mono (hl7.trans hl8) hv4) Tryd.underlying57 (Tryd.sizeOf60 _) hx4 fun p1 hp1 => lw_op Z Z Z (ow_load (R := RVisit) Z Z hp1 (Tryd.sizeOf60 _) (Tryd.isAgg60 _) fun v7 hv7 => lw_allocStore (R := RVisit) Z Z Z Z Z Z Z Tryd.zeroValue60 Tryd.sizeOf60 Z Z Z (by simp) hv7 hC8 fun p2 w9 hp2 hb9 hl9 hC9 => ?_))
     have ho14 := ho12.no hb9
     have ho15 := ho13.no hb9
     refine lw_nil (ew_then (cw_seq ?_))
     replace hb8 := bind_some hb8
     obtain ⟨x5, hx5, hb8⟩ := hb8
     replace hb8 := cond_some hb8
     rcases hb8 with ⟨hc4, hb8⟩ | ⟨hc4, hb8⟩
     ·
      have lz6 := (hl8.trans hl9)
      refine cw_sub (E' := [(3, (.pointer (some ⟨g1, 0, none⟩))), (4, (.pointer (some ⟨g2, 0, none⟩))), (5, v4), (6, v5), (7, (.int .i64 k1)), (8, (.pointer (some p2)))]) ⟨Z, Z, Z, Z, Z, Z, trivial⟩ (cw_drawQ 48 [PV RVisit M1 x4, PV (RSlice RVisit) M1 x3, PEq (.int .i64 k1), PA RVisit M1 x5, PV RVisit M1 x5, PEq (.bool true), PEq (.bool true), PEq undef, PEq undef, PEq undef, PEq (.bool true), PEq (.bool true), PEq undef, PEq undef, PEq undef, PEq undef, PEq undef, PEq undef, PEq (.bool true), PEq (.bool true), PEq undef, PEq undef, PEq undef, PEq (.bool true), PEq (.bool true), PEq undef, PEq undef, PEq undef, PEq undef, PEq undef, PEq undef, PEq undef, PEq undef, PEq undef, PEq undef, PEq (.bool true), PEq (.bool true), PEq undef, PEq undef, PEq undef, PEq undef, PEq undef, PEq undef, PEq undef, PEq undef, PEq undef, PEq undef, PEq undef] (by kernel_rfl) Z (by kernel_rfl) ⟨PV.mono _ _ _, PV.mono _ _ _, PEq.mono _, PA.mono _ _ _, PV.mono _ _ _, PEq.mono _, PEq.mono _, PEq.mono _, PEq.mono _, PEq.mono _, PEq.mono _, PEq.mono _, PEq.mono _, PEq.mono _, PEq.mono _, PEq.mono _, PEq.mono _, PEq.mono _, PEq.mono _, PEq.mono _, PEq.mono _, PEq.mono _, PEq.mono _, PEq.mono _, PEq.mono _, PEq.mono _, PEq.mono _, PEq.mono _, PEq.mono _, PEq.mono _, PEq.mono _, PEq.mono _, PEq.mono _, PEq.mono _, PEq.mono _, PEq.mono _, PEq.mono _, PEq.mono _, PEq.mono _, PEq.mono _, PEq.mono _, PEq.mono _, PEq.mono _, PEq.mono _, PEq.mono _, PEq.mono _, PEq.mono _, PEq.mono _, trivial⟩ ⟨?_, ?_, ?_, ?_, ?_, ?_, ?_, ?_, ?_, ?_, ?_, ?_, ?_, ?_, ?_, ?_, ?_, ?_, ?_, ?_, ?_, ?_, ?_, ?_, ?_, ?_, ?_, ?_, ?_, ?_, ?_, ?_, ?_, ?_, ?_, ?_, ?_, ?_, ?_, ?_, ?_, ?_, ?_, ?_, ?_, ?_, ?_, ?_, trivial⟩ ?_)
      ·
       intro w10 D hS1 hd1
       have hl10 := Le.no M1 hS1
       exact dg_sub (E' := [(8, (.pointer (some p2)))]) ⟨Z, trivial⟩ (dg_plain Z (ow_load (R := RVisit) Z Z (ARep.mono hl10 hp2) (Tryd.sizeOf60 _) (Tryd.isAgg60 _) fun v10 hv10 => ⟨BX.refl _ _, hv10⟩))
      ·
       intro w11 D hS2 hd2
       have hl11 := Le.no M1 hS2
       exact dg_sub (E' := [(6, v5)]) ⟨Z, trivial⟩ (dg_plain Z (ow_move Z Z ⟨BX.refl _ _, (VRep.mono (lz6.trans hl11) hv5)⟩))
      ·
       intro w12 D hS3 hd3
       exact dg_sub (E' := [(7, (.int .i64 k1))]) ⟨Z, trivial⟩ (dg_plain Z (ow_move Z Z ⟨BX.refl _ _, Z⟩))
      ·
       intro w13 D hS4 hd4
       have d1 : PV (RSlice RVisit) M1 x3 (D 1) w13 := dpA hd4 1 Z
       generalize hq1 : (D 1) = v11 at d1
       exact dg_sub (E' := [(41, v11), (42, (.int .i64 k1))]) ⟨(congrArg some hq1), (dpE hd4 2 Z Z), trivial⟩ (dg_plain Z (ow_indexSlice (R := RVisit) Z Z Z d1 Tryd.underlying57 (Tryd.sizeOf60 _) hx5 fun p4 hp4 => ⟨BX.refl _ _, ⟨_, Z, hp4⟩⟩))
      ·
       intro w14 D hS5 hd5
       have d3 : PA RVisit M1 x5 (D 3) w14 := dpA hd5 3 Z
       obtain ⟨p5, e1, ha1⟩ := d3
       exact dg_sub (E' := [(43, (.pointer (some p5)))]) ⟨(congrArg some e1), trivial⟩ (dg_plain Z (ow_load (R := RVisit) Z Z ha1 (Tryd.sizeOf60 _) (Tryd.isAgg60 _) fun v12 hv12 => ⟨BX.refl _ _, hv12⟩))
      ·
       intro w15 D hS6 hd6
       have d4 : PV RVisit M1 x4 (D 0) w15 := dpA hd6 0 Z
       have d5 : PV RVisit M1 x5 (D 4) w15 := dpA hd6 4 Z
       generalize hq2 : (D 0) = v13 at d4
       generalize hq3 : (D 4) = v14 at d5
       refine dg_sub (E' := [(40, v13), (44, v14)]) ⟨(congrArg some hq2), (congrArg some hq3), trivial⟩ ?_
       obtain rfl := open_Visit d4
       obtain rfl := open_Visit d5
       refine dg_plain Z (ow_neqS Z Z Z (Tryd.eqGuardType60) (eqS60 (x := x4) (y := x5) _) fun bb5 hbb5 => ?_)
       obtain rfl := hbb5.trans hc4
       exact ⟨BX.refl _ _, Z⟩
      ·
       intro w16 D hS7 hd7
       exact dg_sub (E' := [(45, (.bool true))]) ⟨(dpE hd7 5 Z Z), trivial⟩ (dg_plain Z (ow_move Z Z ⟨BX.refl _ _, Z⟩))
      ·
       intro w17 D hS8 hd8
       exact dg_sub (E' := [(46, (.bool true)), (8, (.pointer (some p2)))]) ⟨(dpE hd8 6 Z Z), Z, trivial⟩ (dg_off Z Z Z Z ⟨BX.refl _ _, Z⟩)
      ·
       intro w18 D hS9 hd9
       exact dg_sub (E' := [(47, undef), (46, (.bool true))]) ⟨(dpE hd9 7 Z Z), (dpE hd9 6 Z Z), trivial⟩ (dg_off Z Z Z Z ⟨BX.refl _ _, Z⟩)
      ·
       intro w19 D hS10 hd10
       exact dg_sub (E' := [(48, undef), (46, (.bool true))]) ⟨(dpE hd10 8 Z Z), (dpE hd10 6 Z Z), trivial⟩ (dg_off Z Z Z Z ⟨BX.refl _ _, Z⟩)
      ·
       intro w20 D hS11 hd11
       exact dg_sub (E' := [(46, (.bool true)), (49, undef)]) ⟨(dpE hd11 6 Z Z), (dpE hd11 9 Z Z), trivial⟩ (dg_plain Z (ow_pickT Z Z Z ⟨BX.refl _ _, Z⟩))
      ·
       intro w21 D hS12 hd12
       exact dg_sub (E' := [(50, (.bool true))]) ⟨(dpE hd12 10 Z Z), trivial⟩ (dg_plain Z (ow_move Z Z ⟨BX.refl _ _, Z⟩))
      ·
       intro w22 D hS13 hd13
       exact dg_sub (E' := [(51, (.bool true)), (8, (.pointer (some p2)))]) ⟨(dpE hd13 11 Z Z), Z, trivial⟩ (dg_off Z Z Z Z ⟨BX.refl _ _, Z⟩)
      ·
       intro w23 D hS14 hd14
       exact dg_sub (E' := [(52, undef), (51, (.bool true))]) ⟨(dpE hd14 12 Z Z), (dpE hd14 11 Z Z), trivial⟩ (dg_off Z Z Z Z ⟨BX.refl _ _, Z⟩)
      ·
       intro w24 D hS15 hd15
       exact dg_sub (E' := [(51, (.bool true)), (3, (.pointer (some ⟨g1, 0, none⟩)))]) ⟨(dpE hd15 11 Z Z), Z, trivial⟩ (dg_off Z Z Z Z ⟨BX.refl _ _, Z⟩)
      ·
       intro w25 D hS16 hd16
       exact dg_sub (E' := [(54, undef), (51, (.bool true))]) ⟨(dpE hd16 14 Z Z), (dpE hd16 11 Z Z), trivial⟩ (dg_off Z Z Z Z ⟨BX.refl _ _, Z⟩)
      ·
       intro w26 D hS17 hd17
       exact dg_sub (E' := [(55, undef), (51, (.bool true))]) ⟨(dpE hd17 15 Z Z), (dpE hd17 11 Z Z), trivial⟩ (dg_off Z Z Z Z ⟨BX.refl _ _, Z⟩)
      ·
       intro w27 D hS18 hd18
       exact dg_sub (E' := [(53, undef), (56, undef), (51, (.bool true))]) ⟨(dpE hd18 13 Z Z), (dpE hd18 16 Z Z), (dpE hd18 11 Z Z), trivial⟩ (dg_off Z Z Z Z ⟨BX.refl _ _, Z⟩)
      ·
       intro w28 D hS19 hd19
       exact dg_sub (E' := [(51, (.bool true)), (57, undef)]) ⟨(dpE hd19 11 Z Z), (dpE hd19 17 Z Z), trivial⟩ (dg_plain Z (ow_pickT Z Z Z ⟨BX.refl _ _, Z⟩))
      ·
       intro w29 D hS20 hd20
       exact dg_sub (E' := [(58, (.bool true))]) ⟨(dpE hd20 18 Z Z), trivial⟩ (dg_plain Z (ow_move Z Z ⟨BX.refl _ _, Z⟩))
      ·
       intro w30 D hS21 hd21
       exact dg_sub (E' := [(59, (.bool true)), (8, (.pointer (some p2)))]) ⟨(dpE hd21 19 Z Z), Z, trivial⟩ (dg_off Z Z Z Z ⟨BX.refl _ _, Z⟩)
      ·
       intro w31 D hS22 hd22
       exact dg_sub (E' := [(60, undef), (59, (.bool true))]) ⟨(dpE hd22 20 Z Z), (dpE hd22 19 Z Z), trivial⟩ (dg_off Z Z Z Z ⟨BX.refl _ _, Z⟩)
      ·
       intro w32 D hS23 hd23
       exact dg_sub (E' := [(61, undef), (59, (.bool true))]) ⟨(dpE hd23 21 Z Z), (dpE hd23 19 Z Z), trivial⟩ (dg_off Z Z Z Z ⟨BX.refl _ _, Z⟩)
      ·
       intro w33 D hS24 hd24
       exact dg_sub (E' := [(59, (.bool true)), (62, undef)]) ⟨(dpE hd24 19 Z Z), (dpE hd24 22 Z Z), trivial⟩ (dg_plain Z (ow_pickT Z Z Z ⟨BX.refl _ _, Z⟩))
      ·
       intro w34 D hS25 hd25
       exact dg_sub (E' := [(63, (.bool true))]) ⟨(dpE hd25 23 Z Z), trivial⟩ (dg_plain Z (ow_move Z Z ⟨BX.refl _ _, Z⟩))
      ·
       intro w35 D hS26 hd26
       exact dg_sub (E' := [(64, (.bool true)), (8, (.pointer (some p2)))]) ⟨(dpE hd26 24 Z Z), Z, trivial⟩ (dg_off Z Z Z Z ⟨BX.refl _ _, Z⟩)
      ·
       intro w36 D hS27 hd27
       exact dg_sub (E' := [(65, undef), (64, (.bool true))]) ⟨(dpE hd27 25 Z Z), (dpE hd27 24 Z Z), trivial⟩ (dg_off Z Z Z Z ⟨BX.refl _ _, Z⟩)
      ·
       intro w37 D hS28 hd28
       exact dg_sub (E' := [(64, (.bool true)), (3, (.pointer (some ⟨g1, 0, none⟩)))]) ⟨(dpE hd28 24 Z Z), Z, trivial⟩ (dg_off Z Z Z Z ⟨BX.refl _ _, Z⟩)
      ·
       intro w38 D hS29 hd29
       exact dg_sub (E' := [(67, undef), (64, (.bool true))]) ⟨(dpE hd29 27 Z Z), (dpE hd29 24 Z Z), trivial⟩ (dg_off Z Z Z Z ⟨BX.refl _ _, Z⟩)
      ·
       intro w39 D hS30 hd30
       exact dg_sub (E' := [(64, (.bool true)), (8, (.pointer (some p2)))]) ⟨(dpE hd30 24 Z Z), Z, trivial⟩ (dg_off Z Z Z Z ⟨BX.refl _ _, Z⟩)
      ·
       intro w40 D hS31 hd31
       exact dg_sub (E' := [(69, undef), (64, (.bool true))]) ⟨(dpE hd31 29 Z Z), (dpE hd31 24 Z Z), trivial⟩ (dg_off Z Z Z Z ⟨BX.refl _ _, Z⟩)
      ·
       intro w41 D hS32 hd32
       exact dg_sub (E' := [(68, undef), (70, undef), (64, (.bool true))]) ⟨(dpE hd32 28 Z Z), (dpE hd32 30 Z Z), (dpE hd32 24 Z Z), trivial⟩ (dg_off Z Z Z Z ⟨BX.refl _ _, Z⟩)
      ·
       intro w42 D hS33 hd33
       exact dg_sub (E' := [(71, undef), (64, (.bool true))]) ⟨(dpE hd33 31 Z Z), (dpE hd33 24 Z Z), trivial⟩ (dg_off Z Z Z Z ⟨BX.refl _ _, Z⟩)
      ·
       intro w43 D hS34 hd34
       exact dg_sub (E' := [(72, undef), (64, (.bool true))]) ⟨(dpE hd34 32 Z Z), (dpE hd34 24 Z Z), trivial⟩ (dg_off Z Z Z Z ⟨BX.refl _ _, Z⟩)
      ·
       intro w44 D hS35 hd35
       exact dg_sub (E' := [(66, undef), (73, undef), (64, (.bool true))]) ⟨(dpE hd35 26 Z Z), (dpE hd35 33 Z Z), (dpE hd35 24 Z Z), trivial⟩ (dg_off Z Z Z Z ⟨BX.refl _ _, Z⟩)
      ·
       intro w45 D hS36 hd36
       exact dg_sub (E' := [(64, (.bool true)), (74, undef)]) ⟨(dpE hd36 24 Z Z), (dpE hd36 34 Z Z), trivial⟩ (dg_plain Z (ow_pickT Z Z Z ⟨BX.refl _ _, Z⟩))
      ·
       intro w46 D hS37 hd37
       exact dg_sub (E' := [(75, (.bool true))]) ⟨(dpE hd37 35 Z Z), trivial⟩ (dg_plain Z (ow_move Z Z ⟨BX.refl _ _, Z⟩))
      ·
       intro w47 D hS38 hd38
       exact dg_sub (E' := [(76, (.bool true)), (3, (.pointer (some ⟨g1, 0, none⟩)))]) ⟨(dpE hd38 36 Z Z), Z, trivial⟩ (dg_off Z Z Z Z ⟨BX.refl _ _, Z⟩)
      ·
       intro w48 D hS39 hd39
       exact dg_sub (E' := [(77, undef), (76, (.bool true))]) ⟨(dpE hd39 37 Z Z), (dpE hd39 36 Z Z), trivial⟩ (dg_off Z Z Z Z ⟨BX.refl _ _, Z⟩)
      ·
       intro w49 D hS40 hd40
       exact dg_sub (E' := [(76, (.bool true)), (8, (.pointer (some p2)))]) ⟨(dpE hd40 36 Z Z), Z, trivial⟩ (dg_off Z Z Z Z ⟨BX.refl _ _, Z⟩)
      ·
       intro w50 D hS41 hd41
       exact dg_sub (E' := [(79, undef), (76, (.bool true))]) ⟨(dpE hd41 39 Z Z), (dpE hd41 36 Z Z), trivial⟩ (dg_off Z Z Z Z ⟨BX.refl _ _, Z⟩)
      ·
       intro w51 D hS42 hd42
       exact dg_sub (E' := [(78, undef), (80, undef), (76, (.bool true))]) ⟨(dpE hd42 38 Z Z), (dpE hd42 40 Z Z), (dpE hd42 36 Z Z), trivial⟩ (dg_off Z Z Z Z ⟨BX.refl _ _, Z⟩)
      ·
       intro w52 D hS43 hd43
       exact dg_sub (E' := [(81, undef), (76, (.bool true))]) ⟨(dpE hd43 41 Z Z), (dpE hd43 36 Z Z), trivial⟩ (dg_off Z Z Z Z ⟨BX.refl _ _, Z⟩)
      ·
       intro w53 D hS44 hd44
       exact dg_sub (E' := [(76, (.bool true)), (8, (.pointer (some p2)))]) ⟨(dpE hd44 36 Z Z), Z, trivial⟩ (dg_off Z Z Z Z ⟨BX.refl _ _, Z⟩)
      ·
       intro w54 D hS45 hd45
       exact dg_sub (E' := [(83, undef), (76, (.bool true))]) ⟨(dpE hd45 43 Z Z), (dpE hd45 36 Z Z), trivial⟩ (dg_off Z Z Z Z ⟨BX.refl _ _, Z⟩)
      ·
       intro w55 D hS46 hd46
       exact dg_sub (E' := [(82, undef), (84, undef), (76, (.bool true))]) ⟨(dpE hd46 42 Z Z), (dpE hd46 44 Z Z), (dpE hd46 36 Z Z), trivial⟩ (dg_off Z Z Z Z ⟨BX.refl _ _, Z⟩)
      ·
       intro w56 D hS47 hd47
       exact dg_sub (E' := [(85, undef), (76, (.bool true))]) ⟨(dpE hd47 45 Z Z), (dpE hd47 36 Z Z), trivial⟩ (dg_off Z Z Z Z ⟨BX.refl _ _, Z⟩)
      ·
       intro w57 D hS48 hd48
       exact dg_sub (E' := [(76, (.bool true)), (4, (.pointer (some ⟨g2, 0, none⟩)))]) ⟨(dpE hd48 36 Z Z), Z, trivial⟩ (dg_off Z Z Z Z ⟨BX.refl _ _, Z⟩)
      ·
       intro w58 D hS49 hd49
       have hC58 := hC9.no hS49
       refine lw_sub (E' := [(76, (.bool true)), (86, undef), (87, undef), (3, (.pointer (some ⟨g1, 0, none⟩))), (4, (.pointer (some ⟨g2, 0, none⟩))), (5, v4), (6, v5), (7, (.int .i64 k1)), (8, (.pointer (some p2)))]) ⟨(dpE hd49 36 Z Z), (dpE hd49 46 Z Z), (dpE hd49 47 Z Z), Z, Z, Z, Z, Z, Z, trivial⟩ (lw_off Z Z Z Z Z Z (lw_off Z Z Z Z Z Z (lw_op Z Z Z (ow_pickT Z Z Z (lw_nil (ew_then (cw_true Z (cw_seq (cw_region (lw_op Z Z Z (ow_assign Z Z (lw_nil (ew_then (cw_ret (ew_blockR (ew_thenR (ew_thenR (ew_blockR (ew_brkR (ew_thenR ?_))))))))))))))))))))
       have e2 := hR1 _ (Option.some.inj hb8).symm
       subst e2
       obtain rfl := Option.some.inj h
       exact ew_ret (res1 Z (.tmp Z)) ⟨_, Z, ((vbool _)), hC58.bx⟩
     ·
      replace hb8 := cond_some hb8
      rcases hb8 with ⟨hc5, hb8⟩ | ⟨hc5, hb8⟩
      ·
       have lz10 := (hl8.trans hl9)
       refine cw_sub (E' := [(3, (.pointer (some ⟨g1, 0, none⟩))), (4, (.pointer (some ⟨g2, 0, none⟩))), (5, v4), (6, v5), (7, (.int .i64 k1)), (8, (.pointer (some p2)))]) ⟨Z, Z, Z, Z, Z, Z, trivial⟩ (cw_drawQ 48 [PV RVisit M1 x4, PV (RSlice RVisit) M1 x3, PEq (.int .i64 k1), PA RVisit M1 x5, PV RVisit M1 x5, PEq (.bool false), PEq (.bool false), PA RInt M1 x4.Chain, PEq (.int .i64 x4.Chain), PEq (.bool true), PEq (.bool true), PEq (.bool true), PEq undef, PEq undef, PEq undef, PEq undef, PEq undef, PEq undef, PEq (.bool true), PEq (.bool true), PEq undef, PEq undef, PEq undef, PEq (.bool true), PEq (.bool true), PEq undef, PEq undef, PEq undef, PEq undef, PEq undef, PEq undef, PEq undef, PEq undef, PEq undef, PEq undef, PEq (.bool true), PEq (.bool true), PEq undef, PEq undef, PEq undef, PEq undef, PEq undef, PEq undef, PEq undef, PEq undef, PEq undef, PEq undef, PEq undef] (by kernel_rfl) Z (by kernel_rfl) ⟨PV.mono _ _ _, PV.mono _ _ _, PEq.mono _, PA.mono _ _ _, PV.mono _ _ _, PEq.mono _, PEq.mono _, PA.mono _ _ _, PEq.mono _, PEq.mono _, PEq.mono _, PEq.mono _, PEq.mono _, PEq.mono _, PEq.mono _, PEq.mono _, PEq.mono _, PEq.mono _, PEq.mono _, PEq.mono _, PEq.mono _, PEq.mono _, PEq.mono _, PEq.mono _, PEq.mono _, PEq.mono _, PEq.mono _, PEq.mono _, PEq.mono _, PEq.mono _, PEq.mono _, PEq.mono _, PEq.mono _, PEq.mono _, PEq.mono _, PEq.mono _, PEq.mono _, PEq.mono _, PEq.mono _, PEq.mono _, PEq.mono _, PEq.mono _, PEq.mono _, PEq.mono _, PEq.mono _, PEq.mono _, PEq.mono _, PEq.mono _, trivial⟩ ⟨?_, ?_, ?_, ?_, ?_, ?_, ?_, ?_, ?_, ?_, ?_, ?_, ?_, ?_, ?_, ?_, ?_, ?_, ?_, ?_, ?_, ?_, ?_, ?_, ?_, ?_, ?_, ?_, ?_, ?_, ?_, ?_, ?_, ?_, ?_, ?_, ?_, ?_, ?_, ?_, ?_, ?_, ?_, ?_, ?_, ?_, ?_, ?_, trivial⟩ ?_)
       ·
        intro w59 D hS50 hd50
        have hl59 := Le.no M1 hS50
        exact dg_sub (E' := [(8, (.pointer (some p2)))]) ⟨Z, trivial⟩ (dg_plain Z (ow_load (R := RVisit) Z Z (ARep.mono hl59 hp2) (Tryd.sizeOf60 _) (Tryd.isAgg60 _) fun v16 hv16 => ⟨BX.refl _ _, hv16⟩))
       ·
        intro w60 D hS51 hd51
        have hl60 := Le.no M1 hS51
        exact dg_sub (E' := [(6, v5)]) ⟨Z, trivial⟩ (dg_plain Z (ow_move Z Z ⟨BX.refl _ _, (VRep.mono (lz10.trans hl60) hv5)⟩))
       ·
        intro w61 D hS52 hd52
        exact dg_sub (E' := [(7, (.int .i64 k1))]) ⟨Z, trivial⟩ (dg_plain Z (ow_move Z Z ⟨BX.refl _ _, Z⟩))
       ·
        intro w62 D hS53 hd53
        have d131 : PV (RSlice RVisit) M1 x3 (D 1) w62 := dpA hd53 1 Z
        generalize hq4 : (D 1) = v17 at d131
        exact dg_sub (E' := [(41, v17), (42, (.int .i64 k1))]) ⟨(congrArg some hq4), (dpE hd53 2 Z Z), trivial⟩ (dg_plain Z (ow_indexSlice (R := RVisit) Z Z Z d131 Tryd.underlying57 (Tryd.sizeOf60 _) hx5 fun p6 hp6 => ⟨BX.refl _ _, ⟨_, Z, hp6⟩⟩))
       ·
        intro w63 D hS54 hd54
        have d133 : PA RVisit M1 x5 (D 3) w63 := dpA hd54 3 Z
        obtain ⟨p7, e3, ha2⟩ := d133
        exact dg_sub (E' := [(43, (.pointer (some p7)))]) ⟨(congrArg some e3), trivial⟩ (dg_plain Z (ow_load (R := RVisit) Z Z ha2 (Tryd.sizeOf60 _) (Tryd.isAgg60 _) fun v18 hv18 => ⟨BX.refl _ _, hv18⟩))
       ·
        intro w64 D hS55 hd55
        have d134 : PV RVisit M1 x4 (D 0) w64 := dpA hd55 0 Z
        have d135 : PV RVisit M1 x5 (D 4) w64 := dpA hd55 4 Z
        generalize hq5 : (D 0) = v19 at d134
        generalize hq6 : (D 4) = v20 at d135
        refine dg_sub (E' := [(40, v19), (44, v20)]) ⟨(congrArg some hq5), (congrArg some hq6), trivial⟩ ?_
        obtain rfl := open_Visit d134
        obtain rfl := open_Visit d135
        refine dg_plain Z (ow_neqS Z Z Z (Tryd.eqGuardType60) (eqS60 (x := x4) (y := x5) _) fun bb7 hbb7 => ?_)
        obtain rfl := hbb7.trans hc4
        exact ⟨BX.refl _ _, Z⟩
       ·
        intro w65 D hS56 hd56
        exact dg_sub (E' := [(45, (.bool false))]) ⟨(dpE hd56 5 Z Z), trivial⟩ (dg_plain Z (ow_move Z Z ⟨BX.refl _ _, Z⟩))
       ·
        intro w66 D hS57 hd57
        have hl66 := Le.no M1 hS57
        exact dg_sub (E' := [(46, (.bool false)), (8, (.pointer (some p2)))]) ⟨(dpE hd57 6 Z Z), Z, trivial⟩ (dg_on Z Z Z Z (ow_fieldAddr Z Z Tryd.underlying60 Z (Tryd.sizeOf3 _) ⟨BX.refl _ _, ⟨_, Z, (ARep.mono hl66 (hp2.fld fld_Visit_Chain))⟩⟩))
       ·
        intro w67 D hS58 hd58
        have d138 : PA RInt M1 x4.Chain (D 7) w67 := dpA hd58 7 Z
        obtain ⟨p8, e4, ha3⟩ := d138
        refine dg_sub (E' := [(47, (.pointer (some p8))), (46, (.bool false))]) ⟨(congrArg some e4), (dpE hd58 6 Z Z), trivial⟩ (dg_on Z Z Z Z (ow_load (R := RInt) Z Z ha3 (Tryd.sizeOf3 _) (Tryd.isAgg3 _) fun v21 hv21 => ?_))
        obtain rfl := vint_eq hv21
        exact ⟨BX.refl _ _, Z⟩
       ·
        intro w68 D hS59 hd59
        refine dg_sub (E' := [(48, (.int .i64 x4.Chain)), (46, (.bool false))]) ⟨(dpE hd59 8 Z Z), (dpE hd59 6 Z Z), trivial⟩ (dg_on Z Z Z Z (ow_lss Z Z Z fun bb8 hbb8 => ?_))
        obtain rfl := hbb8.trans hc5
        exact ⟨BX.refl _ _, Z⟩
       ·
        intro w69 D hS60 hd60
        exact dg_sub (E' := [(46, (.bool false)), (49, (.bool true))]) ⟨(dpE hd60 6 Z Z), (dpE hd60 9 Z Z), trivial⟩ (dg_plain Z (ow_pickF Z Z Z ⟨BX.refl _ _, Z⟩))
       ·
        intro w70 D hS61 hd61
        exact dg_sub (E' := [(50, (.bool true))]) ⟨(dpE hd61 10 Z Z), trivial⟩ (dg_plain Z (ow_move Z Z ⟨BX.refl _ _, Z⟩))
       ·
        intro w71 D hS62 hd62
        exact dg_sub (E' := [(51, (.bool true)), (8, (.pointer (some p2)))]) ⟨(dpE hd62 11 Z Z), Z, trivial⟩ (dg_off Z Z Z Z ⟨BX.refl _ _, Z⟩)
       ·
        intro w72 D hS63 hd63
        exact dg_sub (E' := [(52, undef), (51, (.bool true))]) ⟨(dpE hd63 12 Z Z), (dpE hd63 11 Z Z), trivial⟩ (dg_off Z Z Z Z ⟨BX.refl _ _, Z⟩)
       ·
        intro w73 D hS64 hd64
        exact dg_sub (E' := [(51, (.bool true)), (3, (.pointer (some ⟨g1, 0, none⟩)))]) ⟨(dpE hd64 11 Z Z), Z, trivial⟩ (dg_off Z Z Z Z ⟨BX.refl _ _, Z⟩)
       ·
        intro w74 D hS65 hd65
        exact dg_sub (E' := [(54, undef), (51, (.bool true))]) ⟨(dpE hd65 14 Z Z), (dpE hd65 11 Z Z), trivial⟩ (dg_off Z Z Z Z ⟨BX.refl _ _, Z⟩)
       ·
        intro w75 D hS66 hd66
        exact dg_sub (E' := [(55, undef), (51, (.bool true))]) ⟨(dpE hd66 15 Z Z), (dpE hd66 11 Z Z), trivial⟩ (dg_off Z Z Z Z ⟨BX.refl _ _, Z⟩)
       ·
        intro w76 D hS67 hd67
        exact dg_sub (E' := [(53, undef), (56, undef), (51, (.bool true))]) ⟨(dpE hd67 13 Z Z), (dpE hd67 16 Z Z), (dpE hd67 11 Z Z), trivial⟩ (dg_off Z Z Z Z ⟨BX.refl _ _, Z⟩)
       ·
        intro w77 D hS68 hd68
        exact dg_sub (E' := [(51, (.bool true)), (57, undef)]) ⟨(dpE hd68 11 Z Z), (dpE hd68 17 Z Z), trivial⟩ (dg_plain Z (ow_pickT Z Z Z ⟨BX.refl _ _, Z⟩))
       ·
        intro w78 D hS69 hd69
        exact dg_sub (E' := [(58, (.bool true))]) ⟨(dpE hd69 18 Z Z), trivial⟩ (dg_plain Z (ow_move Z Z ⟨BX.refl _ _, Z⟩))
       ·
        intro w79 D hS70 hd70
        exact dg_sub (E' := [(59, (.bool true)), (8, (.pointer (some p2)))]) ⟨(dpE hd70 19 Z Z), Z, trivial⟩ (dg_off Z Z Z Z ⟨BX.refl _ _, Z⟩)
       ·
        intro w80 D hS71 hd71
        exact dg_sub (E' := [(60, undef), (59, (.bool true))]) ⟨(dpE hd71 20 Z Z), (dpE hd71 19 Z Z), trivial⟩ (dg_off Z Z Z Z ⟨BX.refl _ _, Z⟩)
       ·
        intro w81 D hS72 hd72
        exact dg_sub (E' := [(61, undef), (59, (.bool true))]) ⟨(dpE hd72 21 Z Z), (dpE hd72 19 Z Z), trivial⟩ (dg_off Z Z Z Z ⟨BX.refl _ _, Z⟩)
       ·
        intro w82 D hS73 hd73
        exact dg_sub (E' := [(59, (.bool true)), (62, undef)]) ⟨(dpE hd73 19 Z Z), (dpE hd73 22 Z Z), trivial⟩ (dg_plain Z (ow_pickT Z Z Z ⟨BX.refl _ _, Z⟩))
       ·
        intro w83 D hS74 hd74
        exact dg_sub (E' := [(63, (.bool true))]) ⟨(dpE hd74 23 Z Z), trivial⟩ (dg_plain Z (ow_move Z Z ⟨BX.refl _ _, Z⟩))
       ·
        intro w84 D hS75 hd75
        exact dg_sub (E' := [(64, (.bool true)), (8, (.pointer (some p2)))]) ⟨(dpE hd75 24 Z Z), Z, trivial⟩ (dg_off Z Z Z Z ⟨BX.refl _ _, Z⟩)
       ·
        intro w85 D hS76 hd76
        exact dg_sub (E' := [(65, undef), (64, (.bool true))]) ⟨(dpE hd76 25 Z Z), (dpE hd76 24 Z Z), trivial⟩ (dg_off Z Z Z Z ⟨BX.refl _ _, Z⟩)
       ·
        intro w86 D hS77 hd77
        exact dg_sub (E' := [(64, (.bool true)), (3, (.pointer (some ⟨g1, 0, none⟩)))]) ⟨(dpE hd77 24 Z Z), Z, trivial⟩ (dg_off Z Z Z Z ⟨BX.refl _ _, Z⟩)
       ·
        intro w87 D hS78 hd78
        exact dg_sub (E' := [(67, undef), (64, (.bool true))]) ⟨(dpE hd78 27 Z Z), (dpE hd78 24 Z Z), trivial⟩ (dg_off Z Z Z Z ⟨BX.refl _ _, Z⟩)
       ·
        intro w88 D hS79 hd79
        exact dg_sub (E' := [(64, (.bool true)), (8, (.pointer (some p2)))]) ⟨(dpE hd79 24 Z Z), Z, trivial⟩ (dg_off Z Z Z Z ⟨BX.refl _ _, Z⟩)
       ·
        intro w89 D hS80 hd80
        exact dg_sub (E' := [(69, undef), (64, (.bool true))]) ⟨(dpE hd80 29 Z Z), (dpE hd80 24 Z Z), trivial⟩ (dg_off Z Z Z Z ⟨BX.refl _ _, Z⟩)
       ·
        intro w90 D hS81 hd81
        exact dg_sub (E' := [(68, undef), (70, undef), (64, (.bool true))]) ⟨(dpE hd81 28 Z Z), (dpE hd81 30 Z Z), (dpE hd81 24 Z Z), trivial⟩ (dg_off Z Z Z Z ⟨BX.refl _ _, Z⟩)
       ·
        intro w91 D hS82 hd82
        exact dg_sub (E' := [(71, undef), (64, (.bool true))]) ⟨(dpE hd82 31 Z Z), (dpE hd82 24 Z Z), trivial⟩ (dg_off Z Z Z Z ⟨BX.refl _ _, Z⟩)
       ·
        intro w92 D hS83 hd83
        exact dg_sub (E' := [(72, undef), (64, (.bool true))]) ⟨(dpE hd83 32 Z Z), (dpE hd83 24 Z Z), trivial⟩ (dg_off Z Z Z Z ⟨BX.refl _ _, Z⟩)
       ·
        intro w93 D hS84 hd84
        exact dg_sub (E' := [(66, undef), (73, undef), (64, (.bool true))]) ⟨(dpE hd84 26 Z Z), (dpE hd84 33 Z Z), (dpE hd84 24 Z Z), trivial⟩ (dg_off Z Z Z Z ⟨BX.refl _ _, Z⟩)
       ·
        intro w94 D hS85 hd85
        exact dg_sub (E' := [(64, (.bool true)), (74, undef)]) ⟨(dpE hd85 24 Z Z), (dpE hd85 34 Z Z), trivial⟩ (dg_plain Z (ow_pickT Z Z Z ⟨BX.refl _ _, Z⟩))
       ·
        intro w95 D hS86 hd86
        exact dg_sub (E' := [(75, (.bool true))]) ⟨(dpE hd86 35 Z Z), trivial⟩ (dg_plain Z (ow_move Z Z ⟨BX.refl _ _, Z⟩))
       ·
        intro w96 D hS87 hd87
        exact dg_sub (E' := [(76, (.bool true)), (3, (.pointer (some ⟨g1, 0, none⟩)))]) ⟨(dpE hd87 36 Z Z), Z, trivial⟩ (dg_off Z Z Z Z ⟨BX.refl _ _, Z⟩)
       ·
        intro w97 D hS88 hd88
        exact dg_sub (E' := [(77, undef), (76, (.bool true))]) ⟨(dpE hd88 37 Z Z), (dpE hd88 36 Z Z), trivial⟩ (dg_off Z Z Z Z ⟨BX.refl _ _, Z⟩)
       ·
        intro w98 D hS89 hd89
        exact dg_sub (E' := [(76, (.bool true)), (8, (.pointer (some p2)))]) ⟨(dpE hd89 36 Z Z), Z, trivial⟩ (dg_off Z Z Z Z ⟨BX.refl _ _, Z⟩)
       ·
        intro w99 D hS90 hd90
        exact dg_sub (E' := [(79, undef), (76, (.bool true))]) ⟨(dpE hd90 39 Z Z), (dpE hd90 36 Z Z), trivial⟩ (dg_off Z Z Z Z ⟨BX.refl _ _, Z⟩)
       ·
        intro w100 D hS91 hd91
        exact dg_sub (E' := [(78, undef), (80, undef), (76, (.bool true))]) ⟨(dpE hd91 38 Z Z), (dpE hd91 40 Z Z), (dpE hd91 36 Z Z), trivial⟩ (dg_off Z Z Z Z ⟨BX.refl _ _, Z⟩)
       ·
        intro w101 D hS92 hd92
        exact dg_sub (E' := [(81, undef), (76, (.bool true))]) ⟨(dpE hd92 41 Z Z), (dpE hd92 36 Z Z), trivial⟩ (dg_off Z Z Z Z ⟨BX.refl _ _, Z⟩)
       ·
        intro w102 D hS93 hd93
        exact dg_sub (E' := [(76, (.bool true)), (8, (.pointer (some p2)))]) ⟨(dpE hd93 36 Z Z), Z, trivial⟩ (dg_off Z Z Z Z ⟨BX.refl _ _, Z⟩)
       ·
        intro w103 D hS94 hd94
        exact dg_sub (E' := [(83, undef), (76, (.bool true))]) ⟨(dpE hd94 43 Z Z), (dpE hd94 36 Z Z), trivial⟩ (dg_off Z Z Z Z ⟨BX.refl _ _, Z⟩)
       ·
        intro w104 D hS95 hd95
        exact dg_sub (E' := [(82, undef), (84, undef), (76, (.bool true))]) ⟨(dpE hd95 42 Z Z), (dpE hd95 44 Z Z), (dpE hd95 36 Z Z), trivial⟩ (dg_off Z Z Z Z ⟨BX.refl _ _, Z⟩)
       ·
        intro w105 D hS96 hd96
        exact dg_sub (E' := [(85, undef), (76, (.bool true))]) ⟨(dpE hd96 45 Z Z), (dpE hd96 36 Z Z), trivial⟩ (dg_off Z Z Z Z ⟨BX.refl _ _, Z⟩)
       ·
        intro w106 D hS97 hd97
        exact dg_sub (E' := [(76, (.bool true)), (4, (.pointer (some ⟨g2, 0, none⟩)))]) ⟨(dpE hd97 36 Z Z), Z, trivial⟩ (dg_off Z Z Z Z ⟨BX.refl _ _, Z⟩)
       ·
        intro w107 D hS98 hd98
        have hC107 := hC9.no hS98
        refine lw_sub (E' := [(76, (.bool true)), (86, undef), (87, undef), (3, (.pointer (some ⟨g1, 0, none⟩))), (4, (.pointer (some ⟨g2, 0, none⟩))), (5, v4), (6, v5), (7, (.int .i64 k1)), (8, (.pointer (some p2)))]) ⟨(dpE hd98 36 Z Z), (dpE hd98 46 Z Z), (dpE hd98 47 Z Z), Z, Z, Z, Z, Z, Z, trivial⟩ (lw_off Z Z Z Z Z Z (lw_off Z Z Z Z Z Z (lw_op Z Z Z (ow_pickT Z Z Z (lw_nil (ew_then (cw_true Z (cw_seq (cw_region (lw_op Z Z Z (ow_assign Z Z (lw_nil (ew_then (cw_ret (ew_blockR (ew_thenR (ew_thenR (ew_blockR (ew_brkR (ew_thenR ?_))))))))))))))))))))
        have e5 := hR1 _ (Option.some.inj hb8).symm
        subst e5
        obtain rfl := Option.some.inj h
        exact ew_ret (res1 Z (.tmp Z)) ⟨_, Z, ((vbool _)), hC107.bx⟩
      ·
       replace hb8 := cond_some hb8
       rcases hb8 with ⟨hc6, hb8⟩ | ⟨hc6, hb8⟩
       ·
        have lz12 := ((((lz1.trans hl6).trans hl7).trans hl8).trans hl9)
        have lz14 := (hl8.trans hl9)
        refine cw_sub (E' := [(3, (.pointer (some ⟨g1, 0, none⟩))), (4, (.pointer (some ⟨g2, 0, none⟩))), (5, v4), (6, v5), (7, (.int .i64 k1)), (8, (.pointer (some p2)))]) ⟨Z, Z, Z, Z, Z, Z, trivial⟩ (cw_drawQ 48 [PV RVisit M1 x4, PV (RSlice RVisit) M1 x3, PEq (.int .i64 k1), PA RVisit M1 x5, PV RVisit M1 x5, PEq (.bool false), PEq (.bool false), PA RInt M1 x4.Chain, PEq (.int .i64 x4.Chain), PEq (.bool false), PEq (.bool false), PEq (.bool false), PA RInt M1 x4.Chain, PEq (.int .i64 x4.Chain), PEq (.pointer (some ⟨g1, 0, none⟩)), PV (RSlice (RSlice RRule)) M1 x1.1.Chains, PEq (.int .i64 (x1.1.Chains.length : Int)), PEq (.bool true), PEq (.bool true), PEq (.bool true), PEq undef, PEq undef, PEq undef, PEq (.bool true), PEq (.bool true), PEq undef, PEq undef, PEq undef, PEq undef, PEq undef, PEq undef, PEq undef, PEq undef, PEq undef, PEq undef, PEq (.bool true), PEq (.bool true), PEq undef, PEq undef, PEq undef, PEq undef, PEq undef, PEq undef, PEq undef, PEq undef, PEq undef, PEq undef, PEq undef] (by kernel_rfl) Z (by kernel_rfl) ⟨PV.mono _ _ _, PV.mono _ _ _, PEq.mono _, PA.mono _ _ _, PV.mono _ _ _, PEq.mono _, PEq.mono _, PA.mono _ _ _, PEq.mono _, PEq.mono _, PEq.mono _, PEq.mono _, PA.mono _ _ _, PEq.mono _, PEq.mono _, PV.mono _ _ _, PEq.mono _, PEq.mono _, PEq.mono _, PEq.mono _, PEq.mono _, PEq.mono _, PEq.mono _, PEq.mono _, PEq.mono _, PEq.mono _, PEq.mono _, PEq.mono _, PEq.mono _, PEq.mono _, PEq.mono _, PEq.mono _, PEq.mono _, PEq.mono _, PEq.mono _, PEq.mono _, PEq.mono _, PEq.mono _, PEq.mono _, PEq.mono _, PEq.mono _, PEq.mono _, PEq.mono _, PEq.mono _, PEq.mono _, PEq.mono _, PEq.mono _, PEq.mono _, trivial⟩ ⟨?_, ?_, ?_, ?_, ?_, ?_, ?_, ?_, ?_, ?_, ?_, ?_, ?_, ?_, ?_, ?_, ?_, ?_, ?_, ?_, ?_, ?_, ?_, ?_, ?_, ?_, ?_, ?_, ?_, ?_, ?_, ?_, ?_, ?_, ?_, ?_, ?_, ?_, ?_, ?_, ?_, ?_, ?_, ?_, ?_, ?_, ?_, ?_, trivial⟩ ?_)
        ·
         intro w108 D hS99 hd99
         have hl108 := Le.no M1 hS99
         exact dg_sub (E' := [(8, (.pointer (some p2)))]) ⟨Z, trivial⟩ (dg_plain Z (ow_load (R := RVisit) Z Z (ARep.mono hl108 hp2) (Tryd.sizeOf60 _) (Tryd.isAgg60 _) fun v23 hv23 => ⟨BX.refl _ _, hv23⟩))
        ·
         intro w109 D hS100 hd100
         have hl109 := Le.no M1 hS100
         exact dg_sub (E' := [(6, v5)]) ⟨Z, trivial⟩ (dg_plain Z (ow_move Z Z ⟨BX.refl _ _, (VRep.mono (lz14.trans hl109) hv5)⟩))
        ·
         intro w110 D hS101 hd101
         exact dg_sub (E' := [(7, (.int .i64 k1))]) ⟨Z, trivial⟩ (dg_plain Z (ow_move Z Z ⟨BX.refl _ _, Z⟩))
        ·
         intro w111 D hS102 hd102
         have d261 : PV (RSlice RVisit) M1 x3 (D 1) w111 := dpA hd102 1 Z
         generalize hq7 : (D 1) = v24 at d261
         exact dg_sub (E' := [(41, v24), (42, (.int .i64 k1))]) ⟨(congrArg some hq7), (dpE hd102 2 Z Z), trivial⟩ (dg_plain Z (ow_indexSlice (R := RVisit) Z Z Z d261 Tryd.underlying57 (Tryd.sizeOf60 _) hx5 fun p9 hp9 => ⟨BX.refl _ _, ⟨_, Z, hp9⟩⟩))
        ·
         intro w112 D hS103 hd103
         have d263 : PA RVisit M1 x5 (D 3) w112 := dpA hd103 3 Z
         obtain ⟨p10, e6, ha4⟩ := d263
         exact dg_sub (E' := [(43, (.pointer (some p10)))]) ⟨(congrArg some e6), trivial⟩ (dg_plain Z (ow_load (R := RVisit) Z Z ha4 (Tryd.sizeOf60 _) (Tryd.isAgg60 _) fun v25 hv25 => ⟨BX.refl _ _, hv25⟩))
        ·
         intro w113 D hS104 hd104
         have d264 : PV RVisit M1 x4 (D 0) w113 := dpA hd104 0 Z
         have d265 : PV RVisit M1 x5 (D 4) w113 := dpA hd104 4 Z
         generalize hq8 : (D 0) = v26 at d264
         generalize hq9 : (D 4) = v27 at d265
         refine dg_sub (E' := [(40, v26), (44, v27)]) ⟨(congrArg some hq8), (congrArg some hq9), trivial⟩ ?_
         obtain rfl := open_Visit d264
         obtain rfl := open_Visit d265
         refine dg_plain Z (ow_neqS Z Z Z (Tryd.eqGuardType60) (eqS60 (x := x4) (y := x5) _) fun bb10 hbb10 => ?_)
         obtain rfl := hbb10.trans hc4
         exact ⟨BX.refl _ _, Z⟩
        ·
         intro w114 D hS105 hd105
         exact dg_sub (E' := [(45, (.bool false))]) ⟨(dpE hd105 5 Z Z), trivial⟩ (dg_plain Z (ow_move Z Z ⟨BX.refl _ _, Z⟩))
        ·
         intro w115 D hS106 hd106
         have hl115 := Le.no M1 hS106
         exact dg_sub (E' := [(46, (.bool false)), (8, (.pointer (some p2)))]) ⟨(dpE hd106 6 Z Z), Z, trivial⟩ (dg_on Z Z Z Z (ow_fieldAddr Z Z Tryd.underlying60 Z (Tryd.sizeOf3 _) ⟨BX.refl _ _, ⟨_, Z, (ARep.mono hl115 (hp2.fld fld_Visit_Chain))⟩⟩))
        ·
         intro w116 D hS107 hd107
         have d268 : PA RInt M1 x4.Chain (D 7) w116 := dpA hd107 7 Z
         obtain ⟨p11, e7, ha5⟩ := d268
         refine dg_sub (E' := [(47, (.pointer (some p11))), (46, (.bool false))]) ⟨(congrArg some e7), (dpE hd107 6 Z Z), trivial⟩ (dg_on Z Z Z Z (ow_load (R := RInt) Z Z ha5 (Tryd.sizeOf3 _) (Tryd.isAgg3 _) fun v28 hv28 => ?_))
         obtain rfl := vint_eq hv28
         exact ⟨BX.refl _ _, Z⟩
        ·
         intro w117 D hS108 hd108
         refine dg_sub (E' := [(48, (.int .i64 x4.Chain)), (46, (.bool false))]) ⟨(dpE hd108 8 Z Z), (dpE hd108 6 Z Z), trivial⟩ (dg_on Z Z Z Z (ow_lss Z Z Z fun bb11 hbb11 => ?_))
         obtain rfl := hbb11.trans hc5
         exact ⟨BX.refl _ _, Z⟩
        ·
         intro w118 D hS109 hd109
         exact dg_sub (E' := [(46, (.bool false)), (49, (.bool false))]) ⟨(dpE hd109 6 Z Z), (dpE hd109 9 Z Z), trivial⟩ (dg_plain Z (ow_pickF Z Z Z ⟨BX.refl _ _, Z⟩))
        ·
         intro w119 D hS110 hd110
         exact dg_sub (E' := [(50, (.bool false))]) ⟨(dpE hd110 10 Z Z), trivial⟩ (dg_plain Z (ow_move Z Z ⟨BX.refl _ _, Z⟩))
        ·
         intro w120 D hS111 hd111
         have hl120 := Le.no M1 hS111
         exact dg_sub (E' := [(51, (.bool false)), (8, (.pointer (some p2)))]) ⟨(dpE hd111 11 Z Z), Z, trivial⟩ (dg_on Z Z Z Z (ow_fieldAddr Z Z Tryd.underlying60 Z (Tryd.sizeOf3 _) ⟨BX.refl _ _, ⟨_, Z, (ARep.mono hl120 (hp2.fld fld_Visit_Chain))⟩⟩))
        ·
         intro w121 D hS112 hd112
         have d277 : PA RInt M1 x4.Chain (D 12) w121 := dpA hd112 12 Z
         obtain ⟨p12, e8, ha6⟩ := d277
         refine dg_sub (E' := [(52, (.pointer (some p12))), (51, (.bool false))]) ⟨(congrArg some e8), (dpE hd112 11 Z Z), trivial⟩ (dg_on Z Z Z Z (ow_load (R := RInt) Z Z ha6 (Tryd.sizeOf3 _) (Tryd.isAgg3 _) fun v29 hv29 => ?_))
         obtain rfl := vint_eq hv29
         exact ⟨BX.refl _ _, Z⟩
        ·
         intro w122 D hS113 hd113
         exact dg_sub (E' := [(51, (.bool false)), (3, (.pointer (some ⟨g1, 0, none⟩)))]) ⟨(dpE hd113 11 Z Z), Z, trivial⟩ (dg_on Z Z Z Z (ow_fieldAddr Z Z Tryd.underlying45 Z (Tryd.sizeOf43 _) ⟨BX.refl _ _, Z⟩))
        ·
         intro w123 D hS114 hd114
         have hl123 := Le.no M1 hS114
         have ho242 := ho14.no hS114
         exact dg_sub (E' := [(54, (.pointer (some ⟨g1, 0, none⟩))), (51, (.bool false))]) ⟨(dpE hd114 14 Z Z), (dpE hd114 11 Z Z), trivial⟩ (dg_on Z Z Z Z (ow_loadOwn1 Z Z Z ho242 (Tryd.isAgg43 _) Z ⟨BX.refl _ _, (VRep.mono (lz12.trans hl123) hw1)⟩))
        ·
         intro w124 D hS115 hd115
         have d282 : PV (RSlice (RSlice RRule)) M1 x1.1.Chains (D 15) w124 := dpA hd115 15 Z
         generalize hq10 : (D 15) = v30 at d282
         exact dg_sub (E' := [(55, v30), (51, (.bool false))]) ⟨(congrArg some hq10), (dpE hd115 11 Z Z), trivial⟩ (dg_on Z Z Z Z (ow_len Z Z d282 Tryd.underlying43 Z ⟨BX.refl _ _, Z⟩))
        ·
         intro w125 D hS116 hd116
         refine dg_sub (E' := [(53, (.int .i64 x4.Chain)), (56, (.int .i64 (x1.1.Chains.length : Int))), (51, (.bool false))]) ⟨(dpE hd116 13 Z Z), (dpE hd116 16 Z Z), (dpE hd116 11 Z Z), trivial⟩ (dg_on Z Z Z Z (ow_geq Z Z Z fun bb12 hbb12 => ?_))
         obtain rfl := hbb12.trans hc6
         exact ⟨BX.refl _ _, Z⟩
        ·
         intro w126 D hS117 hd117
         exact dg_sub (E' := [(51, (.bool false)), (57, (.bool true))]) ⟨(dpE hd117 11 Z Z), (dpE hd117 17 Z Z), trivial⟩ (dg_plain Z (ow_pickF Z Z Z ⟨BX.refl _ _, Z⟩))
        ·
         intro w127 D hS118 hd118
         exact dg_sub (E' := [(58, (.bool true))]) ⟨(dpE hd118 18 Z Z), trivial⟩ (dg_plain Z (ow_move Z Z ⟨BX.refl _ _, Z⟩))
        ·
         intro w128 D hS119 hd119
         exact dg_sub (E' := [(59, (.bool true)), (8, (.pointer (some p2)))]) ⟨(dpE hd119 19 Z Z), Z, trivial⟩ (dg_off Z Z Z Z ⟨BX.refl _ _, Z⟩)
        ·
         intro w129 D hS120 hd120
         exact dg_sub (E' := [(60, undef), (59, (.bool true))]) ⟨(dpE hd120 20 Z Z), (dpE hd120 19 Z Z), trivial⟩ (dg_off Z Z Z Z ⟨BX.refl _ _, Z⟩)
        ·
         intro w130 D hS121 hd121
         exact dg_sub (E' := [(61, undef), (59, (.bool true))]) ⟨(dpE hd121 21 Z Z), (dpE hd121 19 Z Z), trivial⟩ (dg_off Z Z Z Z ⟨BX.refl _ _, Z⟩)
        ·
         intro w131 D hS122 hd122
         exact dg_sub (E' := [(59, (.bool true)), (62, undef)]) ⟨(dpE hd122 19 Z Z), (dpE hd122 22 Z Z), trivial⟩ (dg_plain Z (ow_pickT Z Z Z ⟨BX.refl _ _, Z⟩))
        ·
         intro w132 D hS123 hd123
         exact dg_sub (E' := [(63, (.bool true))]) ⟨(dpE hd123 23 Z Z), trivial⟩ (dg_plain Z (ow_move Z Z ⟨BX.refl _ _, Z⟩))
        ·
         intro w133 D hS124 hd124
         exact dg_sub (E' := [(64, (.bool true)), (8, (.pointer (some p2)))]) ⟨(dpE hd124 24 Z Z), Z, trivial⟩ (dg_off Z Z Z Z ⟨BX.refl _ _, Z⟩)
        ·
         intro w134 D hS125 hd125
         exact dg_sub (E' := [(65, undef), (64, (.bool true))]) ⟨(dpE hd125 25 Z Z), (dpE hd125 24 Z Z), trivial⟩ (dg_off Z Z Z Z ⟨BX.refl _ _, Z⟩)
        ·
         intro w135 D hS126 hd126
         exact dg_sub (E' := [(64, (.bool true)), (3, (.pointer (some ⟨g1, 0, none⟩)))]) ⟨(dpE hd126 24 Z Z), Z, trivial⟩ (dg_off Z Z Z Z ⟨BX.refl _ _, Z⟩)
        ·
         intro w136 D hS127 hd127
         exact dg_sub (E' := [(67, undef), (64, (.bool true))]) ⟨(dpE hd127 27 Z Z), (dpE hd127 24 Z Z), trivial⟩ (dg_off Z Z Z Z ⟨BX.refl _ _, Z⟩)
        ·
         intro w137 D hS128 hd128
         exact dg_sub (E' := [(64, (.bool true)), (8, (.pointer (some p2)))]) ⟨(dpE hd128 24 Z Z), Z, trivial⟩ (dg_off Z Z Z Z ⟨BX.refl _ _, Z⟩)
        ·
         intro w138 D hS129 hd129
         exact dg_sub (E' := [(69, undef), (64, (.bool true))]) ⟨(dpE hd129 29 Z Z), (dpE hd129 24 Z Z), trivial⟩ (dg_off Z Z Z Z ⟨BX.refl _ _, Z⟩)
        ·
         intro w139 D hS130 hd130
         exact dg_sub (E' := [(68, undef), (70, undef), (64, (.bool true))]) ⟨(dpE hd130 28 Z Z), (dpE hd130 30 Z Z), (dpE hd130 24 Z Z), trivial⟩ (dg_off Z Z Z Z ⟨BX.refl _ _, Z⟩)
        ·
         intro w140 D hS131 hd131
         exact dg_sub (E' := [(71, undef), (64, (.bool true))]) ⟨(dpE hd131 31 Z Z), (dpE hd131 24 Z Z), trivial⟩ (dg_off Z Z Z Z ⟨BX.refl _ _, Z⟩)
        ·
         intro w141 D hS132 hd132
         exact dg_sub (E' := [(72, undef), (64, (.bool true))]) ⟨(dpE hd132 32 Z Z), (dpE hd132 24 Z Z), trivial⟩ (dg_off Z Z Z Z ⟨BX.refl _ _, Z⟩)
        ·
         intro w142 D hS133 hd133
         exact dg_sub (E' := [(66, undef), (73, undef), (64, (.bool true))]) ⟨(dpE hd133 26 Z Z), (dpE hd133 33 Z Z), (dpE hd133 24 Z Z), trivial⟩ (dg_off Z Z Z Z ⟨BX.refl _ _, Z⟩)
        ·
         intro w143 D hS134 hd134
         exact dg_sub (E' := [(64, (.bool true)), (74, undef)]) ⟨(dpE hd134 24 Z Z), (dpE hd134 34 Z Z), trivial⟩ (dg_plain Z (ow_pickT Z Z Z ⟨BX.refl _ _, Z⟩))
        ·
         intro w144 D hS135 hd135
         exact dg_sub (E' := [(75, (.bool true))]) ⟨(dpE hd135 35 Z Z), trivial⟩ (dg_plain Z (ow_move Z Z ⟨BX.refl _ _, Z⟩))
        ·
         intro w145 D hS136 hd136
         exact dg_sub (E' := [(76, (.bool true)), (3, (.pointer (some ⟨g1, 0, none⟩)))]) ⟨(dpE hd136 36 Z Z), Z, trivial⟩ (dg_off Z Z Z Z ⟨BX.refl _ _, Z⟩)
        ·
         intro w146 D hS137 hd137
         exact dg_sub (E' := [(77, undef), (76, (.bool true))]) ⟨(dpE hd137 37 Z Z), (dpE hd137 36 Z Z), trivial⟩ (dg_off Z Z Z Z ⟨BX.refl _ _, Z⟩)
        ·
         intro w147 D hS138 hd138
         exact dg_sub (E' := [(76, (.bool true)), (8, (.pointer (some p2)))]) ⟨(dpE hd138 36 Z Z), Z, trivial⟩ (dg_off Z Z Z Z ⟨BX.refl _ _, Z⟩)
        ·
         intro w148 D hS139 hd139
         exact dg_sub (E' := [(79, undef), (76, (.bool true))]) ⟨(dpE hd139 39 Z Z), (dpE hd139 36 Z Z), trivial⟩ (dg_off Z Z Z Z ⟨BX.refl _ _, Z⟩)
        ·
         intro w149 D hS140 hd140
         exact dg_sub (E' := [(78, undef), (80, undef), (76, (.bool true))]) ⟨(dpE hd140 38 Z Z), (dpE hd140 40 Z Z), (dpE hd140 36 Z Z), trivial⟩ (dg_off Z Z Z Z ⟨BX.refl _ _, Z⟩)
        ·
         intro w150 D hS141 hd141
         exact dg_sub (E' := [(81, undef), (76, (.bool true))]) ⟨(dpE hd141 41 Z Z), (dpE hd141 36 Z Z), trivial⟩ (dg_off Z Z Z Z ⟨BX.refl _ _, Z⟩)
        ·
         intro w151 D hS142 hd142
         exact dg_sub (E' := [(76, (.bool true)), (8, (.pointer (some p2)))]) ⟨(dpE hd142 36 Z Z), Z, trivial⟩ (dg_off Z Z Z Z ⟨BX.refl _ _, Z⟩)
        ·
         intro w152 D hS143 hd143
         exact dg_sub (E' := [(83, undef), (76, (.bool true))]) ⟨(dpE hd143 43 Z Z), (dpE hd143 36 Z Z), trivial⟩ (dg_off Z Z Z Z ⟨BX.refl _ _, Z⟩)
        ·
         intro w153 D hS144 hd144
         exact dg_sub (E' := [(82, undef), (84, undef), (76, (.bool true))]) ⟨(dpE hd144 42 Z Z), (dpE hd144 44 Z Z), (dpE hd144 36 Z Z), trivial⟩ (dg_off Z Z Z Z ⟨BX.refl _ _, Z⟩)
        ·
         intro w154 D hS145 hd145
         exact dg_sub (E' := [(85, undef), (76, (.bool true))]) ⟨(dpE hd145 45 Z Z), (dpE hd145 36 Z Z), trivial⟩ (dg_off Z Z Z Z ⟨BX.refl _ _, Z⟩)
        ·
         intro w155 D hS146 hd146
         exact dg_sub (E' := [(76, (.bool true)), (4, (.pointer (some ⟨g2, 0, none⟩)))]) ⟨(dpE hd146 36 Z Z), Z, trivial⟩ (dg_off Z Z Z Z ⟨BX.refl _ _, Z⟩)
        ·
         intro w156 D hS147 hd147
         have hC156 := hC9.no hS147
         refine lw_sub (E' := [(76, (.bool true)), (86, undef), (87, undef), (3, (.pointer (some ⟨g1, 0, none⟩))), (4, (.pointer (some ⟨g2, 0, none⟩))), (5, v4), (6, v5), (7, (.int .i64 k1)), (8, (.pointer (some p2)))]) ⟨(dpE hd147 36 Z Z), (dpE hd147 46 Z Z), (dpE hd147 47 Z Z), Z, Z, Z, Z, Z, Z, trivial⟩ (lw_off Z Z Z Z Z Z (lw_off Z Z Z Z Z Z (lw_op Z Z Z (ow_pickT Z Z Z (lw_nil (ew_then (cw_true Z (cw_seq (cw_region (lw_op Z Z Z (ow_assign Z Z (lw_nil (ew_then (cw_ret (ew_blockR (ew_thenR (ew_thenR (ew_blockR (ew_brkR (ew_thenR ?_))))))))))))))))))))
         have e9 := hR1 _ (Option.some.inj hb8).symm
         subst e9
         obtain rfl := Option.some.inj h
         exact ew_ret (res1 Z (.tmp Z)) ⟨_, Z, ((vbool _)), hC156.bx⟩
       ·
        replace hb8 := cond_some hb8
        rcases hb8 with ⟨hc7, hb8⟩ | ⟨hc7, hb8⟩
        ·
         have lz16 := ((((lz1.trans hl6).trans hl7).trans hl8).trans hl9)
         have lz18 := (hl8.trans hl9)
         refine cw_sub (E' := [(3, (.pointer (some ⟨g1, 0, none⟩))), (4, (.pointer (some ⟨g2, 0, none⟩))), (5, v4), (6, v5), (7, (.int .i64 k1)), (8, (.pointer (some p2)))]) ⟨Z, Z, Z, Z, Z, Z, trivial⟩ (cw_drawQ 48 [PV RVisit M1 x4, PV (RSlice RVisit) M1 x3, PEq (.int .i64 k1), PA RVisit M1 x5, PV RVisit M1 x5, PEq (.bool false), PEq (.bool false), PA RInt M1 x4.Chain, PEq (.int .i64 x4.Chain), PEq (.bool false), PEq (.bool false), PEq (.bool false), PA RInt M1 x4.Chain, PEq (.int .i64 x4.Chain), PEq (.pointer (some ⟨g1, 0, none⟩)), PV (RSlice (RSlice RRule)) M1 x1.1.Chains, PEq (.int .i64 (x1.1.Chains.length : Int)), PEq (.bool false), PEq (.bool false), PEq (.bool false), PA RInt M1 x4.Place, PEq (.int .i64 x4.Place), PEq (.bool true), PEq (.bool true), PEq (.bool true), PEq undef, PEq undef, PEq undef, PEq undef, PEq undef, PEq undef, PEq undef, PEq undef, PEq undef, PEq undef, PEq (.bool true), PEq (.bool true), PEq undef, PEq undef, PEq undef, PEq undef, PEq undef, PEq undef, PEq undef, PEq undef, PEq undef, PEq undef, PEq undef] (by kernel_rfl) Z (by kernel_rfl) ⟨PV.mono _ _ _, PV.mono _ _ _, PEq.mono _, PA.mono _ _ _, PV.mono _ _ _, PEq.mono _, PEq.mono _, PA.mono _ _ _, PEq.mono _, PEq.mono _, PEq.mono _, PEq.mono _, PA.mono _ _ _, PEq.mono _, PEq.mono _, PV.mono _ _ _, PEq.mono _, PEq.mono _, PEq.mono _, PEq.mono _, PA.mono _ _ _, PEq.mono _, PEq.mono _, PEq.mono _, PEq.mono _, PEq.mono _, PEq.mono _, PEq.mono _, PEq.mono _, PEq.mono _, PEq.mono _, PEq.mono _, PEq.mono _, PEq.mono _, PEq.mono _, PEq.mono _, PEq.mono _, PEq.mono _, PEq.mono _, PEq.mono _, PEq.mono _, PEq.mono _, PEq.mono _, PEq.mono _, PEq.mono _, PEq.mono _, PEq.mono _, PEq.mono _, trivial⟩ ⟨?_, ?_, ?_, ?_, ?_, ?_, ?_, ?_, ?_, ?_, ?_, ?_, ?_, ?_, ?_, ?_, ?_, ?_, ?_, ?_, ?_, ?_, ?_, ?_, ?_, ?_, ?_, ?_, ?_, ?_, ?_, ?_, ?_, ?_, ?_, ?_, ?_, ?_, ?_, ?_, ?_, ?_, ?_, ?_, ?_, ?_, ?_, ?_, trivial⟩ ?_)
         ·
          intro w157 D hS148 hd148
          have hl157 := Le.no M1 hS148
          exact dg_sub (E' := [(8, (.pointer (some p2)))]) ⟨Z, trivial⟩ (dg_plain Z (ow_load (R := RVisit) Z Z (ARep.mono hl157 hp2) (Tryd.sizeOf60 _) (Tryd.isAgg60 _) fun v32 hv32 => ⟨BX.refl _ _, hv32⟩))
         ·
          intro w158 D hS149 hd149
          have hl158 := Le.no M1 hS149
          exact dg_sub (E' := [(6, v5)]) ⟨Z, trivial⟩ (dg_plain Z (ow_move Z Z ⟨BX.refl _ _, (VRep.mono (lz18.trans hl158) hv5)⟩))
         ·
          intro w159 D hS150 hd150
          exact dg_sub (E' := [(7, (.int .i64 k1))]) ⟨Z, trivial⟩ (dg_plain Z (ow_move Z Z ⟨BX.refl _ _, Z⟩))
         ·
          intro w160 D hS151 hd151
          have d391 : PV (RSlice RVisit) M1 x3 (D 1) w160 := dpA hd151 1 Z
          generalize hq11 : (D 1) = v33 at d391
          exact dg_sub (E' := [(41, v33), (42, (.int .i64 k1))]) ⟨(congrArg some hq11), (dpE hd151 2 Z Z), trivial⟩ (dg_plain Z (ow_indexSlice (R := RVisit) Z Z Z d391 Tryd.underlying57 (Tryd.sizeOf60 _) hx5 fun p13 hp13 => ⟨BX.refl _ _, ⟨_, Z, hp13⟩⟩))
         ·
          intro w161 D hS152 hd152
          have d393 : PA RVisit M1 x5 (D 3) w161 := dpA hd152 3 Z
          obtain ⟨p14, e10, ha7⟩ := d393
          exact dg_sub (E' := [(43, (.pointer (some p14)))]) ⟨(congrArg some e10), trivial⟩ (dg_plain Z (ow_load (R := RVisit) Z Z ha7 (Tryd.sizeOf60 _) (Tryd.isAgg60 _) fun v34 hv34 => ⟨BX.refl _ _, hv34⟩))
         ·
          intro w162 D hS153 hd153
          have d394 : PV RVisit M1 x4 (D 0) w162 := dpA hd153 0 Z
          have d395 : PV RVisit M1 x5 (D 4) w162 := dpA hd153 4 Z
          generalize hq12 : (D 0) = v35 at d394
          generalize hq13 : (D 4) = v36 at d395
          refine dg_sub (E' := [(40, v35), (44, v36)]) ⟨(congrArg some hq12), (congrArg some hq13), trivial⟩ ?_
          obtain rfl := open_Visit d394
          obtain rfl := open_Visit d395
          refine dg_plain Z (ow_neqS Z Z Z (Tryd.eqGuardType60) (eqS60 (x := x4) (y := x5) _) fun bb14 hbb14 => ?_)
          obtain rfl := hbb14.trans hc4
          exact ⟨BX.refl _ _, Z⟩
         ·
          intro w163 D hS154 hd154
          exact dg_sub (E' := [(45, (.bool false))]) ⟨(dpE hd154 5 Z Z), trivial⟩ (dg_plain Z (ow_move Z Z ⟨BX.refl _ _, Z⟩))
         ·
          intro w164 D hS155 hd155
          have hl164 := Le.no M1 hS155
          exact dg_sub (E' := [(46, (.bool false)), (8, (.pointer (some p2)))]) ⟨(dpE hd155 6 Z Z), Z, trivial⟩ (dg_on Z Z Z Z (ow_fieldAddr Z Z Tryd.underlying60 Z (Tryd.sizeOf3 _) ⟨BX.refl _ _, ⟨_, Z, (ARep.mono hl164 (hp2.fld fld_Visit_Chain))⟩⟩))
         ·
          intro w165 D hS156 hd156
          have d398 : PA RInt M1 x4.Chain (D 7) w165 := dpA hd156 7 Z
          obtain ⟨p15, e11, ha8⟩ := d398
          refine dg_sub (E' := [(47, (.pointer (some p15))), (46, (.bool false))]) ⟨(congrArg some e11), (dpE hd156 6 Z Z), trivial⟩ (dg_on Z Z Z Z (ow_load (R := RInt) Z Z ha8 (Tryd.sizeOf3 _) (Tryd.isAgg3 _) fun v37 hv37 => ?_))
          obtain rfl := vint_eq hv37
          exact ⟨BX.refl _ _, Z⟩
         ·
          intro w166 D hS157 hd157
          refine dg_sub (E' := [(48, (.int .i64 x4.Chain)), (46, (.bool false))]) ⟨(dpE hd157 8 Z Z), (dpE hd157 6 Z Z), trivial⟩ (dg_on Z Z Z Z (ow_lss Z Z Z fun bb15 hbb15 => ?_))
          obtain rfl := hbb15.trans hc5
          exact ⟨BX.refl _ _, Z⟩
         ·
          intro w167 D hS158 hd158
          exact dg_sub (E' := [(46, (.bool false)), (49, (.bool false))]) ⟨(dpE hd158 6 Z Z), (dpE hd158 9 Z Z), trivial⟩ (dg_plain Z (ow_pickF Z Z Z ⟨BX.refl _ _, Z⟩))
         ·
          intro w168 D hS159 hd159
          exact dg_sub (E' := [(50, (.bool false))]) ⟨(dpE hd159 10 Z Z), trivial⟩ (dg_plain Z (ow_move Z Z ⟨BX.refl _ _, Z⟩))
         ·
          intro w169 D hS160 hd160
          have hl169 := Le.no M1 hS160
          exact dg_sub (E' := [(51, (.bool false)), (8, (.pointer (some p2)))]) ⟨(dpE hd160 11 Z Z), Z, trivial⟩ (dg_on Z Z Z Z (ow_fieldAddr Z Z Tryd.underlying60 Z (Tryd.sizeOf3 _) ⟨BX.refl _ _, ⟨_, Z, (ARep.mono hl169 (hp2.fld fld_Visit_Chain))⟩⟩))
         ·
          intro w170 D hS161 hd161
          have d407 : PA RInt M1 x4.Chain (D 12) w170 := dpA hd161 12 Z
          obtain ⟨p16, e12, ha9⟩ := d407
          refine dg_sub (E' := [(52, (.pointer (some p16))), (51, (.bool false))]) ⟨(congrArg some e12), (dpE hd161 11 Z Z), trivial⟩ (dg_on Z Z Z Z (ow_load (R := RInt) Z Z ha9 (Tryd.sizeOf3 _) (Tryd.isAgg3 _) fun v38 hv38 => ?_))
          obtain rfl := vint_eq hv38
          exact ⟨BX.refl _ _, Z⟩
         ·
          intro w171 D hS162 hd162
          exact dg_sub (E' := [(51, (.bool false)), (3, (.pointer (some ⟨g1, 0, none⟩)))]) ⟨(dpE hd162 11 Z Z), Z, trivial⟩ (dg_on Z Z Z Z (ow_fieldAddr Z Z Tryd.underlying45 Z (Tryd.sizeOf43 _) ⟨BX.refl _ _, Z⟩))
         ·
          intro w172 D hS163 hd163
          have hl172 := Le.no M1 hS163
          have ho340 := ho14.no hS163
          exact dg_sub (E' := [(54, (.pointer (some ⟨g1, 0, none⟩))), (51, (.bool false))]) ⟨(dpE hd163 14 Z Z), (dpE hd163 11 Z Z), trivial⟩ (dg_on Z Z Z Z (ow_loadOwn1 Z Z Z ho340 (Tryd.isAgg43 _) Z ⟨BX.refl _ _, (VRep.mono (lz16.trans hl172) hw1)⟩))
         ·
          intro w173 D hS164 hd164
          have d412 : PV (RSlice (RSlice RRule)) M1 x1.1.Chains (D 15) w173 := dpA hd164 15 Z
          generalize hq14 : (D 15) = v39 at d412
          exact dg_sub (E' := [(55, v39), (51, (.bool false))]) ⟨(congrArg some hq14), (dpE hd164 11 Z Z), trivial⟩ (dg_on Z Z Z Z (ow_len Z Z d412 Tryd.underlying43 Z ⟨BX.refl _ _, Z⟩))
         ·
          intro w174 D hS165 hd165
          refine dg_sub (E' := [(53, (.int .i64 x4.Chain)), (56, (.int .i64 (x1.1.Chains.length : Int))), (51, (.bool false))]) ⟨(dpE hd165 13 Z Z), (dpE hd165 16 Z Z), (dpE hd165 11 Z Z), trivial⟩ (dg_on Z Z Z Z (ow_geq Z Z Z fun bb16 hbb16 => ?_))
          obtain rfl := hbb16.trans hc6
          exact ⟨BX.refl _ _, Z⟩
         ·
          intro w175 D hS166 hd166
          exact dg_sub (E' := [(51, (.bool false)), (57, (.bool false))]) ⟨(dpE hd166 11 Z Z), (dpE hd166 17 Z Z), trivial⟩ (dg_plain Z (ow_pickF Z Z Z ⟨BX.refl _ _, Z⟩))
         ·
          intro w176 D hS167 hd167
          exact dg_sub (E' := [(58, (.bool false))]) ⟨(dpE hd167 18 Z Z), trivial⟩ (dg_plain Z (ow_move Z Z ⟨BX.refl _ _, Z⟩))
         ·
          intro w177 D hS168 hd168
          have hl177 := Le.no M1 hS168
          exact dg_sub (E' := [(59, (.bool false)), (8, (.pointer (some p2)))]) ⟨(dpE hd168 19 Z Z), Z, trivial⟩ (dg_on Z Z Z Z (ow_fieldAddr Z Z Tryd.underlying60 Z (Tryd.sizeOf3 _) ⟨BX.refl _ _, ⟨_, Z, (ARep.mono hl177 (hp2.fld fld_Visit_Place))⟩⟩))
         ·
          intro w178 D hS169 hd169
          have d422 : PA RInt M1 x4.Place (D 20) w178 := dpA hd169 20 Z
          obtain ⟨p17, e13, ha10⟩ := d422
          refine dg_sub (E' := [(60, (.pointer (some p17))), (59, (.bool false))]) ⟨(congrArg some e13), (dpE hd169 19 Z Z), trivial⟩ (dg_on Z Z Z Z (ow_load (R := RInt) Z Z ha10 (Tryd.sizeOf3 _) (Tryd.isAgg3 _) fun v40 hv40 => ?_))
          obtain rfl := vint_eq hv40
          exact ⟨BX.refl _ _, Z⟩
         ·
          intro w179 D hS170 hd170
          refine dg_sub (E' := [(61, (.int .i64 x4.Place)), (59, (.bool false))]) ⟨(dpE hd170 21 Z Z), (dpE hd170 19 Z Z), trivial⟩ (dg_on Z Z Z Z (ow_lss Z Z Z fun bb17 hbb17 => ?_))
          obtain rfl := hbb17.trans hc7
          exact ⟨BX.refl _ _, Z⟩
         ·
          intro w180 D hS171 hd171
          exact dg_sub (E' := [(59, (.bool false)), (62, (.bool true))]) ⟨(dpE hd171 19 Z Z), (dpE hd171 22 Z Z), trivial⟩ (dg_plain Z (ow_pickF Z Z Z ⟨BX.refl _ _, Z⟩))
         ·
          intro w181 D hS172 hd172
          exact dg_sub (E' := [(63, (.bool true))]) ⟨(dpE hd172 23 Z Z), trivial⟩ (dg_plain Z (ow_move Z Z ⟨BX.refl _ _, Z⟩))
         ·
          intro w182 D hS173 hd173
          exact dg_sub (E' := [(64, (.bool true)), (8, (.pointer (some p2)))]) ⟨(dpE hd173 24 Z Z), Z, trivial⟩ (dg_off Z Z Z Z ⟨BX.refl _ _, Z⟩)
         ·
          intro w183 D hS174 hd174
          exact dg_sub (E' := [(65, undef), (64, (.bool true))]) ⟨(dpE hd174 25 Z Z), (dpE hd174 24 Z Z), trivial⟩ (dg_off Z Z Z Z ⟨BX.refl _ _, Z⟩)
         ·
          intro w184 D hS175 hd175
          exact dg_sub (E' := [(64, (.bool true)), (3, (.pointer (some ⟨g1, 0, none⟩)))]) ⟨(dpE hd175 24 Z Z), Z, trivial⟩ (dg_off Z Z Z Z ⟨BX.refl _ _, Z⟩)
         ·
          intro w185 D hS176 hd176
          exact dg_sub (E' := [(67, undef), (64, (.bool true))]) ⟨(dpE hd176 27 Z Z), (dpE hd176 24 Z Z), trivial⟩ (dg_off Z Z Z Z ⟨BX.refl _ _, Z⟩)
         ·
          intro w186 D hS177 hd177
          exact dg_sub (E' := [(64, (.bool true)), (8, (.pointer (some p2)))]) ⟨(dpE hd177 24 Z Z), Z, trivial⟩ (dg_off Z Z Z Z ⟨BX.refl _ _, Z⟩)
         ·
          intro w187 D hS178 hd178
          exact dg_sub (E' := [(69, undef), (64, (.bool true))]) ⟨(dpE hd178 29 Z Z), (dpE hd178 24 Z Z), trivial⟩ (dg_off Z Z Z Z ⟨BX.refl _ _, Z⟩)
         ·
          intro w188 D hS179 hd179
          exact dg_sub (E' := [(68, undef), (70, undef), (64, (.bool true))]) ⟨(dpE hd179 28 Z Z), (dpE hd179 30 Z Z), (dpE hd179 24 Z Z), trivial⟩ (dg_off Z Z Z Z ⟨BX.refl _ _, Z⟩)
         ·
          intro w189 D hS180 hd180
          exact dg_sub (E' := [(71, undef), (64, (.bool true))]) ⟨(dpE hd180 31 Z Z), (dpE hd180 24 Z Z), trivial⟩ (dg_off Z Z Z Z ⟨BX.refl _ _, Z⟩)
         ·
          intro w190 D hS181 hd181
          exact dg_sub (E' := [(72, undef), (64, (.bool true))]) ⟨(dpE hd181 32 Z Z), (dpE hd181 24 Z Z), trivial⟩ (dg_off Z Z Z Z ⟨BX.refl _ _, Z⟩)
         ·
          intro w191 D hS182 hd182
          exact dg_sub (E' := [(66, undef), (73, undef), (64, (.bool true))]) ⟨(dpE hd182 26 Z Z), (dpE hd182 33 Z Z), (dpE hd182 24 Z Z), trivial⟩ (dg_off Z Z Z Z ⟨BX.refl _ _, Z⟩)
         ·
          intro w192 D hS183 hd183
          exact dg_sub (E' := [(64, (.bool true)), (74, undef)]) ⟨(dpE hd183 24 Z Z), (dpE hd183 34 Z Z), trivial⟩ (dg_plain Z (ow_pickT Z Z Z ⟨BX.refl _ _, Z⟩))
         ·
          intro w193 D hS184 hd184
          exact dg_sub (E' := [(75, (.bool true))]) ⟨(dpE hd184 35 Z Z), trivial⟩ (dg_plain Z (ow_move Z Z ⟨BX.refl _ _, Z⟩))
         ·
          intro w194 D hS185 hd185
          exact dg_sub (E' := [(76, (.bool true)), (3, (.pointer (some ⟨g1, 0, none⟩)))]) ⟨(dpE hd185 36 Z Z), Z, trivial⟩ (dg_off Z Z Z Z ⟨BX.refl _ _, Z⟩)
         ·
          intro w195 D hS186 hd186
          exact dg_sub (E' := [(77, undef), (76, (.bool true))]) ⟨(dpE hd186 37 Z Z), (dpE hd186 36 Z Z), trivial⟩ (dg_off Z Z Z Z ⟨BX.refl _ _, Z⟩)
         ·
          intro w196 D hS187 hd187
          exact dg_sub (E' := [(76, (.bool true)), (8, (.pointer (some p2)))]) ⟨(dpE hd187 36 Z Z), Z, trivial⟩ (dg_off Z Z Z Z ⟨BX.refl _ _, Z⟩)
         ·
          intro w197 D hS188 hd188
          exact dg_sub (E' := [(79, undef), (76, (.bool true))]) ⟨(dpE hd188 39 Z Z), (dpE hd188 36 Z Z), trivial⟩ (dg_off Z Z Z Z ⟨BX.refl _ _, Z⟩)
         ·
          intro w198 D hS189 hd189
          exact dg_sub (E' := [(78, undef), (80, undef), (76, (.bool true))]) ⟨(dpE hd189 38 Z Z), (dpE hd189 40 Z Z), (dpE hd189 36 Z Z), trivial⟩ (dg_off Z Z Z Z ⟨BX.refl _ _, Z⟩)
         ·
          intro w199 D hS190 hd190
          exact dg_sub (E' := [(81, undef), (76, (.bool true))]) ⟨(dpE hd190 41 Z Z), (dpE hd190 36 Z Z), trivial⟩ (dg_off Z Z Z Z ⟨BX.refl _ _, Z⟩)
         ·
          intro w200 D hS191 hd191
          exact dg_sub (E' := [(76, (.bool true)), (8, (.pointer (some p2)))]) ⟨(dpE hd191 36 Z Z), Z, trivial⟩ (dg_off Z Z Z Z ⟨BX.refl _ _, Z⟩)
         ·
          intro w201 D hS192 hd192
          exact dg_sub (E' := [(83, undef), (76, (.bool true))]) ⟨(dpE hd192 43 Z Z), (dpE hd192 36 Z Z), trivial⟩ (dg_off Z Z Z Z ⟨BX.refl _ _, Z⟩)
         ·
          intro w202 D hS193 hd193
          exact dg_sub (E' := [(82, undef), (84, undef), (76, (.bool true))]) ⟨(dpE hd193 42 Z Z), (dpE hd193 44 Z Z), (dpE hd193 36 Z Z), trivial⟩ (dg_off Z Z Z Z ⟨BX.refl _ _, Z⟩)
         ·
          intro w203 D hS194 hd194
          exact dg_sub (E' := [(85, undef), (76, (.bool true))]) ⟨(dpE hd194 45 Z Z), (dpE hd194 36 Z Z), trivial⟩ (dg_off Z Z Z Z ⟨BX.refl _ _, Z⟩)
         ·
          intro w204 D hS195 hd195
          exact dg_sub (E' := [(76, (.bool true)), (4, (.pointer (some ⟨g2, 0, none⟩)))]) ⟨(dpE hd195 36 Z Z), Z, trivial⟩ (dg_off Z Z Z Z ⟨BX.refl _ _, Z⟩)
         ·
          intro w205 D hS196 hd196
          have hC205 := hC9.no hS196
          refine lw_sub (E' := [(76, (.bool true)), (86, undef), (87, undef), (3, (.pointer (some ⟨g1, 0, none⟩))), (4, (.pointer (some ⟨g2, 0, none⟩))), (5, v4), (6, v5), (7, (.int .i64 k1)), (8, (.pointer (some p2)))]) ⟨(dpE hd196 36 Z Z), (dpE hd196 46 Z Z), (dpE hd196 47 Z Z), Z, Z, Z, Z, Z, Z, trivial⟩ (lw_off Z Z Z Z Z Z (lw_off Z Z Z Z Z Z (lw_op Z Z Z (ow_pickT Z Z Z (lw_nil (ew_then (cw_true Z (cw_seq (cw_region (lw_op Z Z Z (ow_assign Z Z (lw_nil (ew_then (cw_ret (ew_blockR (ew_thenR (ew_thenR (ew_blockR (ew_brkR (ew_thenR ?_))))))))))))))))))))
          have e14 := hR1 _ (Option.some.inj hb8).symm
          subst e14
          obtain rfl := Option.some.inj h
          exact ew_ret (res1 Z (.tmp Z)) ⟨_, Z, ((vbool _)), hC205.bx⟩
        ·
         replace hb8 := bind_some hb8
         obtain ⟨x6, hx6, hb8⟩ := hb8
         replace hb8 := cond_some hb8
         rcases hb8 with ⟨hc8, hb8⟩ | ⟨hc8, hb8⟩
         ·
          have lz20 := ((((lz1.trans hl6).trans hl7).trans hl8).trans hl9)
          have lz22 := (hl8.trans hl9)
          refine cw_sub (E' := [(3, (.pointer (some ⟨g1, 0, none⟩))), (4, (.pointer (some ⟨g2, 0, none⟩))), (5, v4), (6, v5), (7, (.int .i64 k1)), (8, (.pointer (some p2)))]) ⟨Z, Z, Z, Z, Z, Z, trivial⟩ (cw_drawQ 48 [PV RVisit M1 x4, PV (RSlice RVisit) M1 x3, PEq (.int .i64 k1), PA RVisit M1 x5, PV RVisit M1 x5, PEq (.bool false), PEq (.bool false), PA RInt M1 x4.Chain, PEq (.int .i64 x4.Chain), PEq (.bool false), PEq (.bool false), PEq (.bool false), PA RInt M1 x4.Chain, PEq (.int .i64 x4.Chain), PEq (.pointer (some ⟨g1, 0, none⟩)), PV (RSlice (RSlice RRule)) M1 x1.1.Chains, PEq (.int .i64 (x1.1.Chains.length : Int)), PEq (.bool false), PEq (.bool false), PEq (.bool false), PA RInt M1 x4.Place, PEq (.int .i64 x4.Place), PEq (.bool false), PEq (.bool false), PEq (.bool false), PA RInt M1 x4.Place, PEq (.int .i64 x4.Place), PEq (.pointer (some ⟨g1, 0, none⟩)), PV (RSlice (RSlice RRule)) M1 x1.1.Chains, PA RInt M1 x4.Chain, PEq (.int .i64 x4.Chain), PA (RSlice RRule) M1 x6, PV (RSlice RRule) M1 x6, PEq (.int .i64 (x6.length : Int)), PEq (.bool true), PEq (.bool true), PEq (.bool true), PEq undef, PEq undef, PEq undef, PEq undef, PEq undef, PEq undef, PEq undef, PEq undef, PEq undef, PEq undef, PEq undef] (by kernel_rfl) Z (by kernel_rfl) ⟨PV.mono _ _ _, PV.mono _ _ _, PEq.mono _, PA.mono _ _ _, PV.mono _ _ _, PEq.mono _, PEq.mono _, PA.mono _ _ _, PEq.mono _, PEq.mono _, PEq.mono _, PEq.mono _, PA.mono _ _ _, PEq.mono _, PEq.mono _, PV.mono _ _ _, PEq.mono _, PEq.mono _, PEq.mono _, PEq.mono _, PA.mono _ _ _, PEq.mono _, PEq.mono _, PEq.mono _, PEq.mono _, PA.mono _ _ _, PEq.mono _, PEq.mono _, PV.mono _ _ _, PA.mono _ _ _, PEq.mono _, PA.mono _ _ _, PV.mono _ _ _, PEq.mono _, PEq.mono _, PEq.mono _, PEq.mono _, PEq.mono _, PEq.mono _, PEq.mono _, PEq.mono _, PEq.mono _, PEq.mono _, PEq.mono _, PEq.mono _, PEq.mono _, PEq.mono _, PEq.mono _, trivial⟩ ⟨?_, ?_, ?_, ?_, ?_, ?_, ?_, ?_, ?_, ?_, ?_, ?_, ?_, ?_, ?_, ?_, ?_, ?_, ?_, ?_, ?_, ?_, ?_, ?_, ?_, ?_, ?_, ?_, ?_, ?_, ?_, ?_, ?_, ?_, ?_, ?_, ?_, ?_, ?_, ?_, ?_, ?_, ?_, ?_, ?_, ?_, ?_, ?_, trivial⟩ ?_)
          ·
           intro w206 D hS197 hd197
           have hl206 := Le.no M1 hS197
           exact dg_sub (E' := [(8, (.pointer (some p2)))]) ⟨Z, trivial⟩ (dg_plain Z (ow_load (R := RVisit) Z Z (ARep.mono hl206 hp2) (Tryd.sizeOf60 _) (Tryd.isAgg60 _) fun v44 hv44 => ⟨BX.refl _ _, hv44⟩))
          ·
           intro w207 D hS198 hd198
           have hl207 := Le.no M1 hS198
           exact dg_sub (E' := [(6, v5)]) ⟨Z, trivial⟩ (dg_plain Z (ow_move Z Z ⟨BX.refl _ _, (VRep.mono (lz22.trans hl207) hv5)⟩))
          ·
           intro w208 D hS199 hd199
           exact dg_sub (E' := [(7, (.int .i64 k1))]) ⟨Z, trivial⟩ (dg_plain Z (ow_move Z Z ⟨BX.refl _ _, Z⟩))
          ·
           intro w209 D hS200 hd200
           have d521 : PV (RSlice RVisit) M1 x3 (D 1) w209 := dpA hd200 1 Z
           generalize hq15 : (D 1) = v45 at d521
           exact dg_sub (E' := [(41, v45), (42, (.int .i64 k1))]) ⟨(congrArg some hq15), (dpE hd200 2 Z Z), trivial⟩ (dg_plain Z (ow_indexSlice (R := RVisit) Z Z Z d521 Tryd.underlying57 (Tryd.sizeOf60 _) hx5 fun p19 hp19 => ⟨BX.refl _ _, ⟨_, Z, hp19⟩⟩))
          ·
           intro w210 D hS201 hd201
           have d523 : PA RVisit M1 x5 (D 3) w210 := dpA hd201 3 Z
           obtain ⟨p20, e15, ha11⟩ := d523
           exact dg_sub (E' := [(43, (.pointer (some p20)))]) ⟨(congrArg some e15), trivial⟩ (dg_plain Z (ow_load (R := RVisit) Z Z ha11 (Tryd.sizeOf60 _) (Tryd.isAgg60 _) fun v46 hv46 => ⟨BX.refl _ _, hv46⟩))
          ·
           intro w211 D hS202 hd202
           have d524 : PV RVisit M1 x4 (D 0) w211 := dpA hd202 0 Z
           have d525 : PV RVisit M1 x5 (D 4) w211 := dpA hd202 4 Z
           generalize hq16 : (D 0) = v47 at d524
           generalize hq17 : (D 4) = v48 at d525
           refine dg_sub (E' := [(40, v47), (44, v48)]) ⟨(congrArg some hq16), (congrArg some hq17), trivial⟩ ?_
           obtain rfl := open_Visit d524
           obtain rfl := open_Visit d525
           refine dg_plain Z (ow_neqS Z Z Z (Tryd.eqGuardType60) (eqS60 (x := x4) (y := x5) _) fun bb19 hbb19 => ?_)
           obtain rfl := hbb19.trans hc4
           exact ⟨BX.refl _ _, Z⟩
          ·
           intro w212 D hS203 hd203
           exact dg_sub (E' := [(45, (.bool false))]) ⟨(dpE hd203 5 Z Z), trivial⟩ (dg_plain Z (ow_move Z Z ⟨BX.refl _ _, Z⟩))
          ·
           intro w213 D hS204 hd204
           have hl213 := Le.no M1 hS204
           exact dg_sub (E' := [(46, (.bool false)), (8, (.pointer (some p2)))]) ⟨(dpE hd204 6 Z Z), Z, trivial⟩ (dg_on Z Z Z Z (ow_fieldAddr Z Z Tryd.underlying60 Z (Tryd.sizeOf3 _) ⟨BX.refl _ _, ⟨_, Z, (ARep.mono hl213 (hp2.fld fld_Visit_Chain))⟩⟩))
          ·
           intro w214 D hS205 hd205
           have d528 : PA RInt M1 x4.Chain (D 7) w214 := dpA hd205 7 Z
           obtain ⟨p21, e16, ha12⟩ := d528
           refine dg_sub (E' := [(47, (.pointer (some p21))), (46, (.bool false))]) ⟨(congrArg some e16), (dpE hd205 6 Z Z), trivial⟩ (dg_on Z Z Z Z (ow_load (R := RInt) Z Z ha12 (Tryd.sizeOf3 _) (Tryd.isAgg3 _) fun v49 hv49 => ?_))
           obtain rfl := vint_eq hv49
           exact ⟨BX.refl _ _, Z⟩
          ·
           intro w215 D hS206 hd206
           refine dg_sub (E' := [(48, (.int .i64 x4.Chain)), (46, (.bool false))]) ⟨(dpE hd206 8 Z Z), (dpE hd206 6 Z Z), trivial⟩ (dg_on Z Z Z Z (ow_lss Z Z Z fun bb20 hbb20 => ?_))
           obtain rfl := hbb20.trans hc5
           exact ⟨BX.refl _ _, Z⟩
          ·
           intro w216 D hS207 hd207
           exact dg_sub (E' := [(46, (.bool false)), (49, (.bool false))]) ⟨(dpE hd207 6 Z Z), (dpE hd207 9 Z Z), trivial⟩ (dg_plain Z (ow_pickF Z Z Z ⟨BX.refl _ _, Z⟩))
          ·
           intro w217 D hS208 hd208
           exact dg_sub (E' := [(50, (.bool false))]) ⟨(dpE hd208 10 Z Z), trivial⟩ (dg_plain Z (ow_move Z Z ⟨BX.refl _ _, Z⟩))
          ·
           intro w218 D hS209 hd209
           have hl218 := Le.no M1 hS209
           exact dg_sub (E' := [(51, (.bool false)), (8, (.pointer (some p2)))]) ⟨(dpE hd209 11 Z Z), Z, trivial⟩ (dg_on Z Z Z Z (ow_fieldAddr Z Z Tryd.underlying60 Z (Tryd.sizeOf3 _) ⟨BX.refl _ _, ⟨_, Z, (ARep.mono hl218 (hp2.fld fld_Visit_Chain))⟩⟩))
          ·
           intro w219 D hS210 hd210
           have d537 : PA RInt M1 x4.Chain (D 12) w219 := dpA hd210 12 Z
           obtain ⟨p22, e17, ha13⟩ := d537
           refine dg_sub (E' := [(52, (.pointer (some p22))), (51, (.bool false))]) ⟨(congrArg some e17), (dpE hd210 11 Z Z), trivial⟩ (dg_on Z Z Z Z (ow_load (R := RInt) Z Z ha13 (Tryd.sizeOf3 _) (Tryd.isAgg3 _) fun v50 hv50 => ?_))
           obtain rfl := vint_eq hv50
           exact ⟨BX.refl _ _, Z⟩
          ·
           intro w220 D hS211 hd211
           exact dg_sub (E' := [(51, (.bool false)), (3, (.pointer (some ⟨g1, 0, none⟩)))]) ⟨(dpE hd211 11 Z Z), Z, trivial⟩ (dg_on Z Z Z Z (ow_fieldAddr Z Z Tryd.underlying45 Z (Tryd.sizeOf43 _) ⟨BX.refl _ _, Z⟩))
          ·
           intro w221 D hS212 hd212
           have hl221 := Le.no M1 hS212
           have ho438 := ho14.no hS212
           exact dg_sub (E' := [(54, (.pointer (some ⟨g1, 0, none⟩))), (51, (.bool false))]) ⟨(dpE hd212 14 Z Z), (dpE hd212 11 Z Z), trivial⟩ (dg_on Z Z Z Z (ow_loadOwn1 Z Z Z ho438 (Tryd.isAgg43 _) Z ⟨BX.refl _ _, (VRep.mono (lz20.trans hl221) hw1)⟩))
          ·
           intro w222 D hS213 hd213
           have d542 : PV (RSlice (RSlice RRule)) M1 x1.1.Chains (D 15) w222 := dpA hd213 15 Z
           generalize hq18 : (D 15) = v51 at d542
           exact dg_sub (E' := [(55, v51), (51, (.bool false))]) ⟨(congrArg some hq18), (dpE hd213 11 Z Z), trivial⟩ (dg_on Z Z Z Z (ow_len Z Z d542 Tryd.underlying43 Z ⟨BX.refl _ _, Z⟩))
          ·
           intro w223 D hS214 hd214
           refine dg_sub (E' := [(53, (.int .i64 x4.Chain)), (56, (.int .i64 (x1.1.Chains.length : Int))), (51, (.bool false))]) ⟨(dpE hd214 13 Z Z), (dpE hd214 16 Z Z), (dpE hd214 11 Z Z), trivial⟩ (dg_on Z Z Z Z (ow_geq Z Z Z fun bb21 hbb21 => ?_))
           obtain rfl := hbb21.trans hc6
           exact ⟨BX.refl _ _, Z⟩
          ·
           intro w224 D hS215 hd215
           exact dg_sub (E' := [(51, (.bool false)), (57, (.bool false))]) ⟨(dpE hd215 11 Z Z), (dpE hd215 17 Z Z), trivial⟩ (dg_plain Z (ow_pickF Z Z Z ⟨BX.refl _ _, Z⟩))
          ·
           intro w225 D hS216 hd216
           exact dg_sub (E' := [(58, (.bool false))]) ⟨(dpE hd216 18 Z Z), trivial⟩ (dg_plain Z (ow_move Z Z ⟨BX.refl _ _, Z⟩))
          ·
           intro w226 D hS217 hd217
           have hl226 := Le.no M1 hS217
           exact dg_sub (E' := [(59, (.bool false)), (8, (.pointer (some p2)))]) ⟨(dpE hd217 19 Z Z), Z, trivial⟩ (dg_on Z Z Z Z (ow_fieldAddr Z Z Tryd.underlying60 Z (Tryd.sizeOf3 _) ⟨BX.refl _ _, ⟨_, Z, (ARep.mono hl226 (hp2.fld fld_Visit_Place))⟩⟩))
          ·
           intro w227 D hS218 hd218
           have d552 : PA RInt M1 x4.Place (D 20) w227 := dpA hd218 20 Z
           obtain ⟨p23, e18, ha14⟩ := d552
           refine dg_sub (E' := [(60, (.pointer (some p23))), (59, (.bool false))]) ⟨(congrArg some e18), (dpE hd218 19 Z Z), trivial⟩ (dg_on Z Z Z Z (ow_load (R := RInt) Z Z ha14 (Tryd.sizeOf3 _) (Tryd.isAgg3 _) fun v52 hv52 => ?_))
           obtain rfl := vint_eq hv52
           exact ⟨BX.refl _ _, Z⟩
          ·
           intro w228 D hS219 hd219
           refine dg_sub (E' := [(61, (.int .i64 x4.Place)), (59, (.bool false))]) ⟨(dpE hd219 21 Z Z), (dpE hd219 19 Z Z), trivial⟩ (dg_on Z Z Z Z (ow_lss Z Z Z fun bb22 hbb22 => ?_))
           obtain rfl := hbb22.trans hc7
           exact ⟨BX.refl _ _, Z⟩
          ·
           intro w229 D hS220 hd220
           exact dg_sub (E' := [(59, (.bool false)), (62, (.bool false))]) ⟨(dpE hd220 19 Z Z), (dpE hd220 22 Z Z), trivial⟩ (dg_plain Z (ow_pickF Z Z Z ⟨BX.refl _ _, Z⟩))
          ·
           intro w230 D hS221 hd221
           exact dg_sub (E' := [(63, (.bool false))]) ⟨(dpE hd221 23 Z Z), trivial⟩ (dg_plain Z (ow_move Z Z ⟨BX.refl _ _, Z⟩))
          ·
           intro w231 D hS222 hd222
           have hl231 := Le.no M1 hS222
           exact dg_sub (E' := [(64, (.bool false)), (8, (.pointer (some p2)))]) ⟨(dpE hd222 24 Z Z), Z, trivial⟩ (dg_on Z Z Z Z (ow_fieldAddr Z Z Tryd.underlying60 Z (Tryd.sizeOf3 _) ⟨BX.refl _ _, ⟨_, Z, (ARep.mono hl231 (hp2.fld fld_Visit_Place))⟩⟩))
          ·
           intro w232 D hS223 hd223
           have d561 : PA RInt M1 x4.Place (D 25) w232 := dpA hd223 25 Z
           obtain ⟨p24, e19, ha15⟩ := d561
           refine dg_sub (E' := [(65, (.pointer (some p24))), (64, (.bool false))]) ⟨(congrArg some e19), (dpE hd223 24 Z Z), trivial⟩ (dg_on Z Z Z Z (ow_load (R := RInt) Z Z ha15 (Tryd.sizeOf3 _) (Tryd.isAgg3 _) fun v53 hv53 => ?_))
           obtain rfl := vint_eq hv53
           exact ⟨BX.refl _ _, Z⟩
          ·
           intro w233 D hS224 hd224
           exact dg_sub (E' := [(64, (.bool false)), (3, (.pointer (some ⟨g1, 0, none⟩)))]) ⟨(dpE hd224 24 Z Z), Z, trivial⟩ (dg_on Z Z Z Z (ow_fieldAddr Z Z Tryd.underlying45 Z (Tryd.sizeOf43 _) ⟨BX.refl _ _, Z⟩))
          ·
           intro w234 D hS225 hd225
           have hl234 := Le.no M1 hS225
           have ho464 := ho14.no hS225
           exact dg_sub (E' := [(67, (.pointer (some ⟨g1, 0, none⟩))), (64, (.bool false))]) ⟨(dpE hd225 27 Z Z), (dpE hd225 24 Z Z), trivial⟩ (dg_on Z Z Z Z (ow_loadOwn1 Z Z Z ho464 (Tryd.isAgg43 _) Z ⟨BX.refl _ _, (VRep.mono (lz20.trans hl234) hw1)⟩))
          ·
           intro w235 D hS226 hd226
           have hl235 := Le.no M1 hS226
           exact dg_sub (E' := [(64, (.bool false)), (8, (.pointer (some p2)))]) ⟨(dpE hd226 24 Z Z), Z, trivial⟩ (dg_on Z Z Z Z (ow_fieldAddr Z Z Tryd.underlying60 Z (Tryd.sizeOf3 _) ⟨BX.refl _ _, ⟨_, Z, (ARep.mono hl235 (hp2.fld fld_Visit_Chain))⟩⟩))
          ·
           intro w236 D hS227 hd227
           have d567 : PA RInt M1 x4.Chain (D 29) w236 := dpA hd227 29 Z
           obtain ⟨p25, e20, ha16⟩ := d567
           refine dg_sub (E' := [(69, (.pointer (some p25))), (64, (.bool false))]) ⟨(congrArg some e20), (dpE hd227 24 Z Z), trivial⟩ (dg_on Z Z Z Z (ow_load (R := RInt) Z Z ha16 (Tryd.sizeOf3 _) (Tryd.isAgg3 _) fun v54 hv54 => ?_))
           obtain rfl := vint_eq hv54
           exact ⟨BX.refl _ _, Z⟩
          ·
           intro w237 D hS228 hd228
           have d569 : PV (RSlice (RSlice RRule)) M1 x1.1.Chains (D 28) w237 := dpA hd228 28 Z
           generalize hq19 : (D 28) = v55 at d569
           exact dg_sub (E' := [(68, v55), (70, (.int .i64 x4.Chain)), (64, (.bool false))]) ⟨(congrArg some hq19), (dpE hd228 30 Z Z), (dpE hd228 24 Z Z), trivial⟩ (dg_on Z Z Z Z (ow_indexSlice (R := (RSlice RRule)) Z Z Z d569 Tryd.underlying43 (Tryd.sizeOf36 _) hx6 fun p26 hp26 => ⟨BX.refl _ _, ⟨_, Z, hp26⟩⟩))
          ·
           intro w238 D hS229 hd229
           have d572 : PA (RSlice RRule) M1 x6 (D 31) w238 := dpA hd229 31 Z
           obtain ⟨p27, e21, ha17⟩ := d572
           exact dg_sub (E' := [(71, (.pointer (some p27))), (64, (.bool false))]) ⟨(congrArg some e21), (dpE hd229 24 Z Z), trivial⟩ (dg_on Z Z Z Z (ow_load (R := (RSlice RRule)) Z Z ha17 (Tryd.sizeOf36 _) (Tryd.isAgg36 _) fun v56 hv56 => ⟨BX.refl _ _, hv56⟩))
          ·
           intro w239 D hS230 hd230
           have d574 : PV (RSlice RRule) M1 x6 (D 32) w239 := dpA hd230 32 Z
           generalize hq20 : (D 32) = v57 at d574
           exact dg_sub (E' := [(72, v57), (64, (.bool false))]) ⟨(congrArg some hq20), (dpE hd230 24 Z Z), trivial⟩ (dg_on Z Z Z Z (ow_len Z Z d574 Tryd.underlying36 Z ⟨BX.refl _ _, Z⟩))
          ·
           intro w240 D hS231 hd231
           refine dg_sub (E' := [(66, (.int .i64 x4.Place)), (73, (.int .i64 (x6.length : Int))), (64, (.bool false))]) ⟨(dpE hd231 26 Z Z), (dpE hd231 33 Z Z), (dpE hd231 24 Z Z), trivial⟩ (dg_on Z Z Z Z (ow_geq Z Z Z fun bb23 hbb23 => ?_))
           obtain rfl := hbb23.trans hc8
           exact ⟨BX.refl _ _, Z⟩
          ·
           intro w241 D hS232 hd232
           exact dg_sub (E' := [(64, (.bool false)), (74, (.bool true))]) ⟨(dpE hd232 24 Z Z), (dpE hd232 34 Z Z), trivial⟩ (dg_plain Z (ow_pickF Z Z Z ⟨BX.refl _ _, Z⟩))
          ·
           intro w242 D hS233 hd233
           exact dg_sub (E' := [(75, (.bool true))]) ⟨(dpE hd233 35 Z Z), trivial⟩ (dg_plain Z (ow_move Z Z ⟨BX.refl _ _, Z⟩))
          ·
           intro w243 D hS234 hd234
           exact dg_sub (E' := [(76, (.bool true)), (3, (.pointer (some ⟨g1, 0, none⟩)))]) ⟨(dpE hd234 36 Z Z), Z, trivial⟩ (dg_off Z Z Z Z ⟨BX.refl _ _, Z⟩)
          ·
           intro w244 D hS235 hd235
           exact dg_sub (E' := [(77, undef), (76, (.bool true))]) ⟨(dpE hd235 37 Z Z), (dpE hd235 36 Z Z), trivial⟩ (dg_off Z Z Z Z ⟨BX.refl _ _, Z⟩)
          ·
           intro w245 D hS236 hd236
           exact dg_sub (E' := [(76, (.bool true)), (8, (.pointer (some p2)))]) ⟨(dpE hd236 36 Z Z), Z, trivial⟩ (dg_off Z Z Z Z ⟨BX.refl _ _, Z⟩)
          ·
           intro w246 D hS237 hd237
           exact dg_sub (E' := [(79, undef), (76, (.bool true))]) ⟨(dpE hd237 39 Z Z), (dpE hd237 36 Z Z), trivial⟩ (dg_off Z Z Z Z ⟨BX.refl _ _, Z⟩)
          ·
           intro w247 D hS238 hd238
           exact dg_sub (E' := [(78, undef), (80, undef), (76, (.bool true))]) ⟨(dpE hd238 38 Z Z), (dpE hd238 40 Z Z), (dpE hd238 36 Z Z), trivial⟩ (dg_off Z Z Z Z ⟨BX.refl _ _, Z⟩)
          ·
           intro w248 D hS239 hd239
           exact dg_sub (E' := [(81, undef), (76, (.bool true))]) ⟨(dpE hd239 41 Z Z), (dpE hd239 36 Z Z), trivial⟩ (dg_off Z Z Z Z ⟨BX.refl _ _, Z⟩)
          ·
           intro w249 D hS240 hd240
           exact dg_sub (E' := [(76, (.bool true)), (8, (.pointer (some p2)))]) ⟨(dpE hd240 36 Z Z), Z, trivial⟩ (dg_off Z Z Z Z ⟨BX.refl _ _, Z⟩)
          ·
           intro w250 D hS241 hd241
           exact dg_sub (E' := [(83, undef), (76, (.bool true))]) ⟨(dpE hd241 43 Z Z), (dpE hd241 36 Z Z), trivial⟩ (dg_off Z Z Z Z ⟨BX.refl _ _, Z⟩)
          ·
           intro w251 D hS242 hd242
           exact dg_sub (E' := [(82, undef), (84, undef), (76, (.bool true))]) ⟨(dpE hd242 42 Z Z), (dpE hd242 44 Z Z), (dpE hd242 36 Z Z), trivial⟩ (dg_off Z Z Z Z ⟨BX.refl _ _, Z⟩)
          ·
           intro w252 D hS243 hd243
           exact dg_sub (E' := [(85, undef), (76, (.bool true))]) ⟨(dpE hd243 45 Z Z), (dpE hd243 36 Z Z), trivial⟩ (dg_off Z Z Z Z ⟨BX.refl _ _, Z⟩)
          ·
           intro w253 D hS244 hd244
           exact dg_sub (E' := [(76, (.bool true)), (4, (.pointer (some ⟨g2, 0, none⟩)))]) ⟨(dpE hd244 36 Z Z), Z, trivial⟩ (dg_off Z Z Z Z ⟨BX.refl _ _, Z⟩)
          ·
           intro w254 D hS245 hd245
           have hC254 := hC9.no hS245
           refine lw_sub (E' := [(76, (.bool true)), (86, undef), (87, undef), (3, (.pointer (some ⟨g1, 0, none⟩))), (4, (.pointer (some ⟨g2, 0, none⟩))), (5, v4), (6, v5), (7, (.int .i64 k1)), (8, (.pointer (some p2)))]) ⟨(dpE hd245 36 Z Z), (dpE hd245 46 Z Z), (dpE hd245 47 Z Z), Z, Z, Z, Z, Z, Z, trivial⟩ (lw_off Z Z Z Z Z Z (lw_off Z Z Z Z Z Z (lw_op Z Z Z (ow_pickT Z Z Z (lw_nil (ew_then (cw_true Z (cw_seq (cw_region (lw_op Z Z Z (ow_assign Z Z (lw_nil (ew_then (cw_ret (ew_blockR (ew_thenR (ew_thenR (ew_blockR (ew_brkR (ew_thenR ?_))))))))))))))))))))
           have e22 := hR1 _ (Option.some.inj hb8).symm
           subst e22
           obtain rfl := Option.some.inj h
           exact ew_ret (res1 Z (.tmp Z)) ⟨_, Z, ((vbool _)), hC254.bx⟩
         ·
          replace hb8 := bind_some hb8
          obtain ⟨x7, hx7, hb8⟩ := hb8
          have lz23 := ((((lz2.trans hl6).trans hl7).trans hl8).trans hl9)
          have lz24 := ((((lz1.trans hl6).trans hl7).trans hl8).trans hl9)
          have lz26 := (hl8.trans hl9)
          refine cw_sub (E' := [(3, (.pointer (some ⟨g1, 0, none⟩))), (4, (.pointer (some ⟨g2, 0, none⟩))), (5, v4), (6, v5), (7, (.int .i64 k1)), (8, (.pointer (some p2)))]) ⟨Z, Z, Z, Z, Z, Z, trivial⟩ (cw_drawQ 48 [PV RVisit M1 x4, PV (RSlice RVisit) M1 x3, PEq (.int .i64 k1), PA RVisit M1 x5, PV RVisit M1 x5, PEq (.bool false), PEq (.bool false), PA RInt M1 x4.Chain, PEq (.int .i64 x4.Chain), PEq (.bool false), PEq (.bool false), PEq (.bool false), PA RInt M1 x4.Chain, PEq (.int .i64 x4.Chain), PEq (.pointer (some ⟨g1, 0, none⟩)), PV (RSlice (RSlice RRule)) M1 x1.1.Chains, PEq (.int .i64 (x1.1.Chains.length : Int)), PEq (.bool false), PEq (.bool false), PEq (.bool false), PA RInt M1 x4.Place, PEq (.int .i64 x4.Place), PEq (.bool false), PEq (.bool false), PEq (.bool false), PA RInt M1 x4.Place, PEq (.int .i64 x4.Place), PEq (.pointer (some ⟨g1, 0, none⟩)), PV (RSlice (RSlice RRule)) M1 x1.1.Chains, PA RInt M1 x4.Chain, PEq (.int .i64 x4.Chain), PA (RSlice RRule) M1 x6, PV (RSlice RRule) M1 x6, PEq (.int .i64 (x6.length : Int)), PEq (.bool false), PEq (.bool false), PEq (.bool false), PEq (.pointer (some ⟨g1, 0, none⟩)), PV (RSlice (RSlice RRule)) M1 x1.1.Chains, PA RInt M1 x4.Chain, PEq (.int .i64 x4.Chain), PA (RSlice RRule) M1 x6, PV (RSlice RRule) M1 x6, PA RInt M1 x4.Place, PEq (.int .i64 x4.Place), PA RRule M1 x7, PV RRule M1 x7, PV RPacket M1 ({ From := x1.2.From, To := x1.2.To, Port := x1.2.Port, Proto := x1.2.Proto } : Packet)] (by kernel_rfl) Z (by kernel_rfl) ⟨PV.mono _ _ _, PV.mono _ _ _, PEq.mono _, PA.mono _ _ _, PV.mono _ _ _, PEq.mono _, PEq.mono _, PA.mono _ _ _, PEq.mono _, PEq.mono _, PEq.mono _, PEq.mono _, PA.mono _ _ _, PEq.mono _, PEq.mono _, PV.mono _ _ _, PEq.mono _, PEq.mono _, PEq.mono _, PEq.mono _, PA.mono _ _ _, PEq.mono _, PEq.mono _, PEq.mono _, PEq.mono _, PA.mono _ _ _, PEq.mono _, PEq.mono _, PV.mono _ _ _, PA.mono _ _ _, PEq.mono _, PA.mono _ _ _, PV.mono _ _ _, PEq.mono _, PEq.mono _, PEq.mono _, PEq.mono _, PEq.mono _, PV.mono _ _ _, PA.mono _ _ _, PEq.mono _, PA.mono _ _ _, PV.mono _ _ _, PA.mono _ _ _, PEq.mono _, PA.mono _ _ _, PV.mono _ _ _, PV.mono _ _ _, trivial⟩ ⟨?_, ?_, ?_, ?_, ?_, ?_, ?_, ?_, ?_, ?_, ?_, ?_, ?_, ?_, ?_, ?_, ?_, ?_, ?_, ?_, ?_, ?_, ?_, ?_, ?_, ?_, ?_, ?_, ?_, ?_, ?_, ?_, ?_, ?_, ?_, ?_, ?_, ?_, ?_, ?_, ?_, ?_, ?_, ?_, ?_, ?_, ?_, ?_, trivial⟩ ?_)
          ·
           intro w255 D hS246 hd246
           have hl255 := Le.no M1 hS246
           exact dg_sub (E' := [(8, (.pointer (some p2)))]) ⟨Z, trivial⟩ (dg_plain Z (ow_load (R := RVisit) Z Z (ARep.mono hl255 hp2) (Tryd.sizeOf60 _) (Tryd.isAgg60 _) fun v62 hv62 => ⟨BX.refl _ _, hv62⟩))
          ·
           intro w256 D hS247 hd247
           have hl256 := Le.no M1 hS247
           exact dg_sub (E' := [(6, v5)]) ⟨Z, trivial⟩ (dg_plain Z (ow_move Z Z ⟨BX.refl _ _, (VRep.mono (lz26.trans hl256) hv5)⟩))
          ·
           intro w257 D hS248 hd248
           exact dg_sub (E' := [(7, (.int .i64 k1))]) ⟨Z, trivial⟩ (dg_plain Z (ow_move Z Z ⟨BX.refl _ _, Z⟩))
          ·
           intro w258 D hS249 hd249
           have d651 : PV (RSlice RVisit) M1 x3 (D 1) w258 := dpA hd249 1 Z
           generalize hq21 : (D 1) = v63 at d651
           exact dg_sub (E' := [(41, v63), (42, (.int .i64 k1))]) ⟨(congrArg some hq21), (dpE hd249 2 Z Z), trivial⟩ (dg_plain Z (ow_indexSlice (R := RVisit) Z Z Z d651 Tryd.underlying57 (Tryd.sizeOf60 _) hx5 fun p30 hp30 => ⟨BX.refl _ _, ⟨_, Z, hp30⟩⟩))
          ·
           intro w259 D hS250 hd250
           have d653 : PA RVisit M1 x5 (D 3) w259 := dpA hd250 3 Z
           obtain ⟨p31, e23, ha18⟩ := d653
           exact dg_sub (E' := [(43, (.pointer (some p31)))]) ⟨(congrArg some e23), trivial⟩ (dg_plain Z (ow_load (R := RVisit) Z Z ha18 (Tryd.sizeOf60 _) (Tryd.isAgg60 _) fun v64 hv64 => ⟨BX.refl _ _, hv64⟩))
          ·
           intro w260 D hS251 hd251
           have d654 : PV RVisit M1 x4 (D 0) w260 := dpA hd251 0 Z
           have d655 : PV RVisit M1 x5 (D 4) w260 := dpA hd251 4 Z
           generalize hq22 : (D 0) = v65 at d654
           generalize hq23 : (D 4) = v66 at d655
           refine dg_sub (E' := [(40, v65), (44, v66)]) ⟨(congrArg some hq22), (congrArg some hq23), trivial⟩ ?_
           obtain rfl := open_Visit d654
           obtain rfl := open_Visit d655
           refine dg_plain Z (ow_neqS Z Z Z (Tryd.eqGuardType60) (eqS60 (x := x4) (y := x5) _) fun bb24 hbb24 => ?_)
           obtain rfl := hbb24.trans hc4
           exact ⟨BX.refl _ _, Z⟩
          ·
           intro w261 D hS252 hd252
           exact dg_sub (E' := [(45, (.bool false))]) ⟨(dpE hd252 5 Z Z), trivial⟩ (dg_plain Z (ow_move Z Z ⟨BX.refl _ _, Z⟩))
          ·
           intro w262 D hS253 hd253
           have hl262 := Le.no M1 hS253
           exact dg_sub (E' := [(46, (.bool false)), (8, (.pointer (some p2)))]) ⟨(dpE hd253 6 Z Z), Z, trivial⟩ (dg_on Z Z Z Z (ow_fieldAddr Z Z Tryd.underlying60 Z (Tryd.sizeOf3 _) ⟨BX.refl _ _, ⟨_, Z, (ARep.mono hl262 (hp2.fld fld_Visit_Chain))⟩⟩))
          ·
           intro w263 D hS254 hd254
           have d658 : PA RInt M1 x4.Chain (D 7) w263 := dpA hd254 7 Z
           obtain ⟨p32, e24, ha19⟩ := d658
           refine dg_sub (E' := [(47, (.pointer (some p32))), (46, (.bool false))]) ⟨(congrArg some e24), (dpE hd254 6 Z Z), trivial⟩ (dg_on Z Z Z Z (ow_load (R := RInt) Z Z ha19 (Tryd.sizeOf3 _) (Tryd.isAgg3 _) fun v67 hv67 => ?_))
           obtain rfl := vint_eq hv67
           exact ⟨BX.refl _ _, Z⟩
          ·
           intro w264 D hS255 hd255
           refine dg_sub (E' := [(48, (.int .i64 x4.Chain)), (46, (.bool false))]) ⟨(dpE hd255 8 Z Z), (dpE hd255 6 Z Z), trivial⟩ (dg_on Z Z Z Z (ow_lss Z Z Z fun bb25 hbb25 => ?_))
           obtain rfl := hbb25.trans hc5
           exact ⟨BX.refl _ _, Z⟩
          ·
           intro w265 D hS256 hd256
           exact dg_sub (E' := [(46, (.bool false)), (49, (.bool false))]) ⟨(dpE hd256 6 Z Z), (dpE hd256 9 Z Z), trivial⟩ (dg_plain Z (ow_pickF Z Z Z ⟨BX.refl _ _, Z⟩))
          ·
           intro w266 D hS257 hd257
           exact dg_sub (E' := [(50, (.bool false))]) ⟨(dpE hd257 10 Z Z), trivial⟩ (dg_plain Z (ow_move Z Z ⟨BX.refl _ _, Z⟩))
          ·
           intro w267 D hS258 hd258
           have hl267 := Le.no M1 hS258
           exact dg_sub (E' := [(51, (.bool false)), (8, (.pointer (some p2)))]) ⟨(dpE hd258 11 Z Z), Z, trivial⟩ (dg_on Z Z Z Z (ow_fieldAddr Z Z Tryd.underlying60 Z (Tryd.sizeOf3 _) ⟨BX.refl _ _, ⟨_, Z, (ARep.mono hl267 (hp2.fld fld_Visit_Chain))⟩⟩))
          ·
           intro w268 D hS259 hd259
           have d667 : PA RInt M1 x4.Chain (D 12) w268 := dpA hd259 12 Z
           obtain ⟨p33, e25, ha20⟩ := d667
           refine dg_sub (E' := [(52, (.pointer (some p33))), (51, (.bool false))]) ⟨(congrArg some e25), (dpE hd259 11 Z Z), trivial⟩ (dg_on Z Z Z Z (ow_load (R := RInt) Z Z ha20 (Tryd.sizeOf3 _) (Tryd.isAgg3 _) fun v68 hv68 => ?_))
           obtain rfl := vint_eq hv68
           exact ⟨BX.refl _ _, Z⟩
          ·
           intro w269 D hS260 hd260
           exact dg_sub (E' := [(51, (.bool false)), (3, (.pointer (some ⟨g1, 0, none⟩)))]) ⟨(dpE hd260 11 Z Z), Z, trivial⟩ (dg_on Z Z Z Z (ow_fieldAddr Z Z Tryd.underlying45 Z (Tryd.sizeOf43 _) ⟨BX.refl _ _, Z⟩))
          ·
           intro w270 D hS261 hd261
           have hl270 := Le.no M1 hS261
           have ho536 := ho14.no hS261
           exact dg_sub (E' := [(54, (.pointer (some ⟨g1, 0, none⟩))), (51, (.bool false))]) ⟨(dpE hd261 14 Z Z), (dpE hd261 11 Z Z), trivial⟩ (dg_on Z Z Z Z (ow_loadOwn1 Z Z Z ho536 (Tryd.isAgg43 _) Z ⟨BX.refl _ _, (VRep.mono (lz24.trans hl270) hw1)⟩))
          ·
           intro w271 D hS262 hd262
           have d672 : PV (RSlice (RSlice RRule)) M1 x1.1.Chains (D 15) w271 := dpA hd262 15 Z
           generalize hq24 : (D 15) = v69 at d672
           exact dg_sub (E' := [(55, v69), (51, (.bool false))]) ⟨(congrArg some hq24), (dpE hd262 11 Z Z), trivial⟩ (dg_on Z Z Z Z (ow_len Z Z d672 Tryd.underlying43 Z ⟨BX.refl _ _, Z⟩))
          ·
           intro w272 D hS263 hd263
           refine dg_sub (E' := [(53, (.int .i64 x4.Chain)), (56, (.int .i64 (x1.1.Chains.length : Int))), (51, (.bool false))]) ⟨(dpE hd263 13 Z Z), (dpE hd263 16 Z Z), (dpE hd263 11 Z Z), trivial⟩ (dg_on Z Z Z Z (ow_geq Z Z Z fun bb26 hbb26 => ?_))
           obtain rfl := hbb26.trans hc6
           exact ⟨BX.refl _ _, Z⟩
          ·
           intro w273 D hS264 hd264
           exact dg_sub (E' := [(51, (.bool false)), (57, (.bool false))]) ⟨(dpE hd264 11 Z Z), (dpE hd264 17 Z Z), trivial⟩ (dg_plain Z (ow_pickF Z Z Z ⟨BX.refl _ _, Z⟩))
          ·
           intro w274 D hS265 hd265
           exact dg_sub (E' := [(58, (.bool false))]) ⟨(dpE hd265 18 Z Z), trivial⟩ (dg_plain Z (ow_move Z Z ⟨BX.refl _ _, Z⟩))
          ·
           intro w275 D hS266 hd266
           have hl275 := Le.no M1 hS266
           exact dg_sub (E' := [(59, (.bool false)), (8, (.pointer (some p2)))]) ⟨(dpE hd266 19 Z Z), Z, trivial⟩ (dg_on Z Z Z Z (ow_fieldAddr Z Z Tryd.underlying60 Z (Tryd.sizeOf3 _) ⟨BX.refl _ _, ⟨_, Z, (ARep.mono hl275 (hp2.fld fld_Visit_Place))⟩⟩))
          ·
           intro w276 D hS267 hd267
           have d682 : PA RInt M1 x4.Place (D 20) w276 := dpA hd267 20 Z
           obtain ⟨p34, e26, ha21⟩ := d682
           refine dg_sub (E' := [(60, (.pointer (some p34))), (59, (.bool false))]) ⟨(congrArg some e26), (dpE hd267 19 Z Z), trivial⟩ (dg_on Z Z Z Z (ow_load (R := RInt) Z Z ha21 (Tryd.sizeOf3 _) (Tryd.isAgg3 _) fun v70 hv70 => ?_))
           obtain rfl := vint_eq hv70
           exact ⟨BX.refl _ _, Z⟩
          ·
           intro w277 D hS268 hd268
           refine dg_sub (E' := [(61, (.int .i64 x4.Place)), (59, (.bool false))]) ⟨(dpE hd268 21 Z Z), (dpE hd268 19 Z Z), trivial⟩ (dg_on Z Z Z Z (ow_lss Z Z Z fun bb27 hbb27 => ?_))
           obtain rfl := hbb27.trans hc7
           exact ⟨BX.refl _ _, Z⟩
          ·
           intro w278 D hS269 hd269
           exact dg_sub (E' := [(59, (.bool false)), (62, (.bool false))]) ⟨(dpE hd269 19 Z Z), (dpE hd269 22 Z Z), trivial⟩ (dg_plain Z (ow_pickF Z Z Z ⟨BX.refl _ _, Z⟩))
          ·
           intro w279 D hS270 hd270
           exact dg_sub (E' := [(63, (.bool false))]) ⟨(dpE hd270 23 Z Z), trivial⟩ (dg_plain Z (ow_move Z Z ⟨BX.refl _ _, Z⟩))
          ·
           intro w280 D hS271 hd271
           have hl280 := Le.no M1 hS271
           exact dg_sub (E' := [(64, (.bool false)), (8, (.pointer (some p2)))]) ⟨(dpE hd271 24 Z Z), Z, trivial⟩ (dg_on Z Z Z Z (ow_fieldAddr Z Z Tryd.underlying60 Z (Tryd.sizeOf3 _) ⟨BX.refl _ _, ⟨_, Z, (ARep.mono hl280 (hp2.fld fld_Visit_Place))⟩⟩))
          ·
           intro w281 D hS272 hd272
           have d691 : PA RInt M1 x4.Place (D 25) w281 := dpA hd272 25 Z
           obtain ⟨p35, e27, ha22⟩ := d691
           refine dg_sub (E' := [(65, (.pointer (some p35))), (64, (.bool false))]) ⟨(congrArg some e27), (dpE hd272 24 Z Z), trivial⟩ (dg_on Z Z Z Z (ow_load (R := RInt) Z Z ha22 (Tryd.sizeOf3 _) (Tryd.isAgg3 _) fun v71 hv71 => ?_))
           obtain rfl := vint_eq hv71
           exact ⟨BX.refl _ _, Z⟩
          ·
           intro w282 D hS273 hd273
           exact dg_sub (E' := [(64, (.bool false)), (3, (.pointer (some ⟨g1, 0, none⟩)))]) ⟨(dpE hd273 24 Z Z), Z, trivial⟩ (dg_on Z Z Z Z (ow_fieldAddr Z Z Tryd.underlying45 Z (Tryd.sizeOf43 _) ⟨BX.refl _ _, Z⟩))
          ·
           intro w283 D hS274 hd274
           have hl283 := Le.no M1 hS274
           have ho562 := ho14.no hS274
           exact dg_sub (E' := [(67, (.pointer (some ⟨g1, 0, none⟩))), (64, (.bool false))]) ⟨(dpE hd274 27 Z Z), (dpE hd274 24 Z Z), trivial⟩ (dg_on Z Z Z Z (ow_loadOwn1 Z Z Z ho562 (Tryd.isAgg43 _) Z ⟨BX.refl _ _, (VRep.mono (lz24.trans hl283) hw1)⟩))
          ·
           intro w284 D hS275 hd275
           have hl284 := Le.no M1 hS275
           exact dg_sub (E' := [(64, (.bool false)), (8, (.pointer (some p2)))]) ⟨(dpE hd275 24 Z Z), Z, trivial⟩ (dg_on Z Z Z Z (ow_fieldAddr Z Z Tryd.underlying60 Z (Tryd.sizeOf3 _) ⟨BX.refl _ _, ⟨_, Z, (ARep.mono hl284 (hp2.fld fld_Visit_Chain))⟩⟩))
          ·
           intro w285 D hS276 hd276
           have d697 : PA RInt M1 x4.Chain (D 29) w285 := dpA hd276 29 Z
           obtain ⟨p36, e28, ha23⟩ := d697
           refine dg_sub (E' := [(69, (.pointer (some p36))), (64, (.bool false))]) ⟨(congrArg some e28), (dpE hd276 24 Z Z), trivial⟩ (dg_on Z Z Z Z (ow_load (R := RInt) Z Z ha23 (Tryd.sizeOf3 _) (Tryd.isAgg3 _) fun v72 hv72 => ?_))
           obtain rfl := vint_eq hv72
           exact ⟨BX.refl _ _, Z⟩
          ·
           intro w286 D hS277 hd277
           have d699 : PV (RSlice (RSlice RRule)) M1 x1.1.Chains (D 28) w286 := dpA hd277 28 Z
           generalize hq25 : (D 28) = v73 at d699
           exact dg_sub (E' := [(68, v73), (70, (.int .i64 x4.Chain)), (64, (.bool false))]) ⟨(congrArg some hq25), (dpE hd277 30 Z Z), (dpE hd277 24 Z Z), trivial⟩ (dg_on Z Z Z Z (ow_indexSlice (R := (RSlice RRule)) Z Z Z d699 Tryd.underlying43 (Tryd.sizeOf36 _) hx6 fun p37 hp37 => ⟨BX.refl _ _, ⟨_, Z, hp37⟩⟩))
          ·
           intro w287 D hS278 hd278
           have d702 : PA (RSlice RRule) M1 x6 (D 31) w287 := dpA hd278 31 Z
           obtain ⟨p38, e29, ha24⟩ := d702
           exact dg_sub (E' := [(71, (.pointer (some p38))), (64, (.bool false))]) ⟨(congrArg some e29), (dpE hd278 24 Z Z), trivial⟩ (dg_on Z Z Z Z (ow_load (R := (RSlice RRule)) Z Z ha24 (Tryd.sizeOf36 _) (Tryd.isAgg36 _) fun v74 hv74 => ⟨BX.refl _ _, hv74⟩))
          ·
           intro w288 D hS279 hd279
           have d704 : PV (RSlice RRule) M1 x6 (D 32) w288 := dpA hd279 32 Z
           generalize hq26 : (D 32) = v75 at d704
           exact dg_sub (E' := [(72, v75), (64, (.bool false))]) ⟨(congrArg some hq26), (dpE hd279 24 Z Z), trivial⟩ (dg_on Z Z Z Z (ow_len Z Z d704 Tryd.underlying36 Z ⟨BX.refl _ _, Z⟩))
          ·
           intro w289 D hS280 hd280
           refine dg_sub (E' := [(66, (.int .i64 x4.Place)), (73, (.int .i64 (x6.length : Int))), (64, (.bool false))]) ⟨(dpE hd280 26 Z Z), (dpE hd280 33 Z Z), (dpE hd280 24 Z Z), trivial⟩ (dg_on Z Z Z Z (ow_geq Z Z Z fun bb28 hbb28 => ?_))
           obtain rfl := hbb28.trans hc8
           exact ⟨BX.refl _ _, Z⟩
          ·
           intro w290 D hS281 hd281
           exact dg_sub (E' := [(64, (.bool false)), (74, (.bool false))]) ⟨(dpE hd281 24 Z Z), (dpE hd281 34 Z Z), trivial⟩ (dg_plain Z (ow_pickF Z Z Z ⟨BX.refl _ _, Z⟩))
          ·
           intro w291 D hS282 hd282
           exact dg_sub (E' := [(75, (.bool false))]) ⟨(dpE hd282 35 Z Z), trivial⟩ (dg_plain Z (ow_move Z Z ⟨BX.refl _ _, Z⟩))
          ·
           intro w292 D hS283 hd283
           exact dg_sub (E' := [(76, (.bool false)), (3, (.pointer (some ⟨g1, 0, none⟩)))]) ⟨(dpE hd283 36 Z Z), Z, trivial⟩ (dg_on Z Z Z Z (ow_fieldAddr Z Z Tryd.underlying45 Z (Tryd.sizeOf43 _) ⟨BX.refl _ _, Z⟩))
          ·
           intro w293 D hS284 hd284
           have hl293 := Le.no M1 hS284
           have ho582 := ho14.no hS284
           exact dg_sub (E' := [(77, (.pointer (some ⟨g1, 0, none⟩))), (76, (.bool false))]) ⟨(dpE hd284 37 Z Z), (dpE hd284 36 Z Z), trivial⟩ (dg_on Z Z Z Z (ow_loadOwn1 Z Z Z ho582 (Tryd.isAgg43 _) Z ⟨BX.refl _ _, (VRep.mono (lz24.trans hl293) hw1)⟩))
          ·
           intro w294 D hS285 hd285
           have hl294 := Le.no M1 hS285
           exact dg_sub (E' := [(76, (.bool false)), (8, (.pointer (some p2)))]) ⟨(dpE hd285 36 Z Z), Z, trivial⟩ (dg_on Z Z Z Z (ow_fieldAddr Z Z Tryd.underlying60 Z (Tryd.sizeOf3 _) ⟨BX.refl _ _, ⟨_, Z, (ARep.mono hl294 (hp2.fld fld_Visit_Chain))⟩⟩))
          ·
           intro w295 D hS286 hd286
           have d717 : PA RInt M1 x4.Chain (D 39) w295 := dpA hd286 39 Z
           obtain ⟨p39, e30, ha25⟩ := d717
           refine dg_sub (E' := [(79, (.pointer (some p39))), (76, (.bool false))]) ⟨(congrArg some e30), (dpE hd286 36 Z Z), trivial⟩ (dg_on Z Z Z Z (ow_load (R := RInt) Z Z ha25 (Tryd.sizeOf3 _) (Tryd.isAgg3 _) fun v76 hv76 => ?_))
           obtain rfl := vint_eq hv76
           exact ⟨BX.refl _ _, Z⟩
          ·
           intro w296 D hS287 hd287
           have d719 : PV (RSlice (RSlice RRule)) M1 x1.1.Chains (D 38) w296 := dpA hd287 38 Z
           generalize hq27 : (D 38) = v77 at d719
           exact dg_sub (E' := [(78, v77), (80, (.int .i64 x4.Chain)), (76, (.bool false))]) ⟨(congrArg some hq27), (dpE hd287 40 Z Z), (dpE hd287 36 Z Z), trivial⟩ (dg_on Z Z Z Z (ow_indexSlice (R := (RSlice RRule)) Z Z Z d719 Tryd.underlying43 (Tryd.sizeOf36 _) hx6 fun p40 hp40 => ⟨BX.refl _ _, ⟨_, Z, hp40⟩⟩))
          ·
           intro w297 D hS288 hd288
           have d722 : PA (RSlice RRule) M1 x6 (D 41) w297 := dpA hd288 41 Z
           obtain ⟨p41, e31, ha26⟩ := d722
           exact dg_sub (E' := [(81, (.pointer (some p41))), (76, (.bool false))]) ⟨(congrArg some e31), (dpE hd288 36 Z Z), trivial⟩ (dg_on Z Z Z Z (ow_load (R := (RSlice RRule)) Z Z ha26 (Tryd.sizeOf36 _) (Tryd.isAgg36 _) fun v78 hv78 => ⟨BX.refl _ _, hv78⟩))
          ·
           intro w298 D hS289 hd289
           have hl298 := Le.no M1 hS289
           exact dg_sub (E' := [(76, (.bool false)), (8, (.pointer (some p2)))]) ⟨(dpE hd289 36 Z Z), Z, trivial⟩ (dg_on Z Z Z Z (ow_fieldAddr Z Z Tryd.underlying60 Z (Tryd.sizeOf3 _) ⟨BX.refl _ _, ⟨_, Z, (ARep.mono hl298 (hp2.fld fld_Visit_Place))⟩⟩))
          ·
           intro w299 D hS290 hd290
           have d725 : PA RInt M1 x4.Place (D 43) w299 := dpA hd290 43 Z
           obtain ⟨p42, e32, ha27⟩ := d725
           refine dg_sub (E' := [(83, (.pointer (some p42))), (76, (.bool false))]) ⟨(congrArg some e32), (dpE hd290 36 Z Z), trivial⟩ (dg_on Z Z Z Z (ow_load (R := RInt) Z Z ha27 (Tryd.sizeOf3 _) (Tryd.isAgg3 _) fun v79 hv79 => ?_))
           obtain rfl := vint_eq hv79
           exact ⟨BX.refl _ _, Z⟩
          ·
           intro w300 D hS291 hd291
           have d727 : PV (RSlice RRule) M1 x6 (D 42) w300 := dpA hd291 42 Z
           generalize hq28 : (D 42) = v80 at d727
           exact dg_sub (E' := [(82, v80), (84, (.int .i64 x4.Place)), (76, (.bool false))]) ⟨(congrArg some hq28), (dpE hd291 44 Z Z), (dpE hd291 36 Z Z), trivial⟩ (dg_on Z Z Z Z (ow_indexSlice (R := RRule) Z Z Z d727 Tryd.underlying36 (Tryd.sizeOf42 _) hx7 fun p43 hp43 => ⟨BX.refl _ _, ⟨_, Z, hp43⟩⟩))
          ·
           intro w301 D hS292 hd292
           have d730 : PA RRule M1 x7 (D 45) w301 := dpA hd292 45 Z
           obtain ⟨p44, e33, ha28⟩ := d730
           exact dg_sub (E' := [(85, (.pointer (some p44))), (76, (.bool false))]) ⟨(congrArg some e33), (dpE hd292 36 Z Z), trivial⟩ (dg_on Z Z Z Z (ow_load (R := RRule) Z Z ha28 (Tryd.sizeOf42 _) (Tryd.isAgg42 _) fun v81 hv81 => ⟨BX.refl _ _, hv81⟩))
          ·
           intro w302 D hS293 hd293
           have ho601 := ho15.no hS293
           refine dg_sub (E' := [(76, (.bool false)), (4, (.pointer (some ⟨g2, 0, none⟩)))]) ⟨(dpE hd293 36 Z Z), Z, trivial⟩ (dg_on Z Z Z Z (ow_loadOwnA Z Z Z ho601 (Tryd.isAgg38 _) (Tryd.sizeOf38 _) Z ?_))
           have hw7 : VRep RPacket w302 M1 ({ From := x1.2.From, To := x1.2.To, Port := x1.2.Port, Proto := x1.2.Proto } : Packet) (.agg #[(.int .i64 x1.2.From), (.int .i64 x1.2.To), (.int .i64 x1.2.Port), (.int .i64 x1.2.Proto)]) := shut_Packet
           exact ⟨BX.refl _ _, hw7⟩
          ·
           intro w303 D hS294 hd294
           have d779 : PV RRule M1 x7 (D 46) w303 := dpA hd294 46 Z
           have d780 : PV RPacket M1 ({ From := x1.2.From, To := x1.2.To, Port := x1.2.Port, Proto := x1.2.Proto } : Packet) (D 47) w303 := dpA hd294 47 Z
           have hl303 := Le.no M1 hS294
           have hC303 := hC9.no hS294
           have ho602 := ho14.no hS294
           have ho603 := ho15.no hS294
           generalize hq29 : (D 46) = v82 at d779
           generalize hq30 : (D 47) = v83 at d780
           refine lw_sub (E' := [(76, (.bool false)), (86, v82), (87, v83), (3, (.pointer (some ⟨g1, 0, none⟩))), (4, (.pointer (some ⟨g2, 0, none⟩))), (5, v4), (6, v5), (7, (.int .i64 k1)), (8, (.pointer (some p2)))]) ⟨(dpE hd294 36 Z Z), (congrArg some hq29), (congrArg some hq30), Z, Z, Z, Z, Z, Z, trivial⟩ ?_
           replace hb8 := bind_some hb8
           obtain ⟨x8, hx8, hb8⟩ := hb8
           refine lw_on Z Z Z Z Z Z (ow_call Z Z Tryd.call45 (w_impl_RuleFits (hG.mono (lz23.trans hl303)) hC303.old d779 d780 hx8) fun v84 w304 hv84 => ?_)
           obtain ⟨hv84, hb10⟩ := hv84
           have hl304 := Le.no M1 hb10
           have hC304 := hC303.no hb10
           have ho604 := ho602.no hb10
           have ho605 := ho603.no hb10
           obtain rfl := vbool_eq hv84
           refine lw_on Z Z Z Z Z Z (ow_not Z Z (lw_op Z Z Z (ow_pickF Z Z Z (lw_nil (ew_then ?_)))))
           replace hb8 := cond_some hb8
           rcases hb8 with ⟨hc9, hb8⟩ | ⟨hc9, hb8⟩
           ·
            subst hc9
            refine cw_false Z (cw_skip (ew_blockN (ew_then (cw_region (lw_op Z Z Z (ow_move Z Z (lw_op Z Z Z (ow_add Z Z Z (lw_op Z Z Z (ow_assign Z Z (lw_nil ?_)))))))))))
            have lz27 := ((lz26.trans hl303).trans hl304)
            exact ew_nxt (W (k1 + 1)) hb8 fun a ha => ⟨M1, (ha.sub ⟨Z, Z, Z, Z, Z, trivial⟩), lz27, hC304, ho604, hm4, ho605, hm5⟩
           ·
            subst hc9
            refine cw_true Z (cw_seq (cw_region (lw_op Z Z Z (ow_assign Z Z (lw_nil (ew_then (cw_ret (ew_blockR (ew_thenR (ew_thenR (ew_blockR (ew_brkR (ew_thenR ?_)))))))))))))
            have e34 := hR1 _ (Option.some.inj hb8).symm
            subst e34
            obtain rfl := Option.some.inj h
            exact ew_ret (res1 Z (.tmp Z)) ⟨_, Z, ((vbool _)), hC304.bx⟩
    ·
     obtain rfl := hbb3.trans hc3
     exact cw_false Z (cw_exit (ew_thenX (ew_thenX (ew_blockX (ew_brk k1 hb8 fun a ha => ⟨M1, (ha.sub ⟨Z, Z, Z, Z, Z, trivial⟩), hl8, hC8, ho12, hm4, ho13, hm5⟩)))))
   ·
    rintro k2 a w305 hlr2 ⟨M2, hF2, hl305, hC305, ho606, hm6, ho607, hm7⟩
    subst hlr2
    refine ew_at (E := [(3, (.pointer (some ⟨g1, 0, none⟩))), (4, (.pointer (some ⟨g2, 0, none⟩))), (5, v4), (6, v5), (7, (.int .i64 k2))]) hF2 (ew_then (cw_seq (cw_region (lw_op Z Z Z (ow_loadOwnA Z Z Z ho606 (Tryd.isAgg45 _) (Tryd.sizeOf45 _) Z ?_)))))
    have lz28 := (((lz1.trans hl6).trans hl7).trans hl305)
    have hw8 : VRep RRuleset w305 M2 ({ Chains := x1.1.Chains, Accept := x1.1.Accept } : Ruleset) (.agg #[(.slice A1 x1.1.Chains.length c1), (.bool x1.1.Accept)]) := shut_Ruleset (VRep.mono lz28 hw1)
    refine lw_op Z Z Z (ow_loadOwnA Z Z Z ho607 (Tryd.isAgg38 _) (Tryd.sizeOf38 _) Z ?_)
    have hw9 : VRep RPacket w305 M2 ({ From := x1.2.From, To := x1.2.To, Port := x1.2.Port, Proto := x1.2.Proto } : Packet) (.agg #[(.int .i64 x1.2.From), (.int .i64 x1.2.To), (.int .i64 x1.2.Port), (.int .i64 x1.2.Proto)]) := shut_Packet
    replace h := bind_some h
    obtain ⟨x9, hx9, h⟩ := h
    have lz29 := (((lz2.trans hl6).trans hl7).trans hl305)
    refine lw_op Z Z Z (ow_call Z Z Tryd.call39 (w_impl_JudgedBy (hG.mono lz29) hC305.old hw8 hw9 hx9) fun v86 w306 hv86 => ?_)
    obtain ⟨hv86, hb11⟩ := hv86
    have hl306 := Le.no M2 hb11
    have hC306 := hC305.no hb11
    have ho608 := ho606.no hb11
    obtain rfl := vint_eq hv86
    refine lw_op Z Z Z (ow_assign Z Z (lw_nil (ew_then (cw_seq (cw_seq (cw_region (lw_op Z Z Z (ow_move Z Z (lw_op Z Z Z (ow_neqI Z Z Z fun bb29 hbb29 => lw_op Z Z Z (ow_move Z Z ?_)))))))))))
    replace h := cond_some h
    rcases h with ⟨hc10, h⟩ | ⟨hc10, h⟩
    ·
     obtain rfl := hbb29.trans hc10
     refine lw_on Z Z Z Z Z Z (ow_move Z Z (lw_on Z Z Z Z Z Z (ow_neqI Z Z Z fun bb30 hbb30 => lw_op Z Z Z (ow_pickT Z Z Z (lw_op Z Z Z (ow_move Z Z ?_))))))
     replace h := cond_some h
     rcases h with ⟨hc11, h⟩ | ⟨hc11, h⟩
     ·
      obtain rfl := hbb30.trans hc11
      refine lw_off Z Z Z Z Z Z (lw_off Z Z Z Z Z Z (lw_off Z Z Z Z Z Z (lw_op Z Z Z (ow_pickT Z Z Z (lw_nil (ew_then (cw_true Z (cw_seq (cw_region ?_)))))))))
      replace h := bind_some h
      obtain ⟨x10, hx10, h⟩ := h
      refine lw_op Z Z Z (ow_call Z Z Tryd.call18 (w_laws_alive (hG.mono (lz29.trans hl306)) hC306.old hx10) fun v87 w307 hv87 => ?_)
      obtain ⟨hv87, hb12⟩ := hv87
      have hC307 := hC306.no hb12
      obtain rfl := vbool_eq hv87
      refine lw_op Z Z Z (ow_assign Z Z (lw_nil (ew_then (cw_ret (ew_thenR ?_)))))
      obtain rfl := Option.some.inj h
      exact ew_ret (res1 Z (.tmp Z)) ⟨_, Z, ((vbool _)), hC307.bx⟩
     ·
      obtain rfl := hbb30.trans hc11
      refine lw_on Z Z Z Z Z Z (ow_move Z Z ?_)
      have lz30 := ((hl7.trans hl305).trans hl306)
      refine lw_on Z Z Z Z Z Z (ow_len Z Z (VRep.mono lz30 hv4) Tryd.underlying57 Z (lw_on Z Z Z Z Z Z (ow_eqlI Z Z Z fun bb31 hbb31 => lw_op Z Z Z (ow_pickF Z Z Z (lw_nil (ew_then ?_))))))
      replace h := cond_some h
      rcases h with ⟨hc12, h⟩ | ⟨hc12, h⟩
      ·
       obtain rfl := hbb31.trans hc12
       refine cw_true Z (cw_seq (cw_region ?_))
       replace h := bind_some h
       obtain ⟨x11, hx11, h⟩ := h
       refine lw_op Z Z Z (ow_call Z Z Tryd.call18 (w_laws_alive (hG.mono (lz29.trans hl306)) hC306.old hx11) fun v88 w308 hv88 => ?_)
       obtain ⟨hv88, hb13⟩ := hv88
       have hC308 := hC306.no hb13
       obtain rfl := vbool_eq hv88
       refine lw_op Z Z Z (ow_assign Z Z (lw_nil (ew_then (cw_ret (ew_thenR ?_)))))
       obtain rfl := Option.some.inj h
       exact ew_ret (res1 Z (.tmp Z)) ⟨_, Z, ((vbool _)), hC308.bx⟩
      ·
       obtain rfl := hbb31.trans hc12
       refine cw_false Z (cw_skip (ew_then (cw_seq (cw_seq (cw_region (lw_op Z Z Z (ow_move Z Z (lw_op Z Z Z (ow_len Z Z (VRep.mono lz30 hv4) Tryd.underlying57 Z (lw_op Z Z Z (ow_eqlI Z Z Z fun bb32 hbb32 => lw_nil (ew_then ?_))))))))))))
       replace h := cond_some h
       rcases h with ⟨hc13, h⟩ | ⟨hc13, h⟩
       ·
        obtain rfl := hbb32.trans hc13
        refine cw_true Z (cw_seq (cw_region (lw_op Z Z Z (ow_assign Z Z (lw_nil (ew_then (cw_ret (ew_thenR ?_))))))))
        obtain rfl := Option.some.inj h
        exact ew_ret (res1 Z (.tmp Z)) ⟨_, Z, ((vbool _)), hC306.bx⟩
       ·
        obtain rfl := hbb32.trans hc13
        refine cw_false Z (cw_skip (ew_then (cw_seq (cw_region (lw_op Z Z Z (ow_move Z Z (lw_op Z Z Z (ow_move Z Z (lw_op Z Z Z (ow_len Z Z (VRep.mono lz30 hv4) Tryd.underlying57 Z (lw_op Z Z Z (ow_sub Z Z Z ?_))))))))))))
        replace h := bind_some h
        obtain ⟨x12, hx12, h⟩ := h
        refine lw_op Z Z Z (ow_indexSlice (R := RVisit) Z Z Z (VRep.mono lz30 hv4) Tryd.underlying57 (Tryd.sizeOf60 _) hx12 fun p45 hp45 => lw_op Z Z Z (ow_load (R := RVisit) Z Z hp45 (Tryd.sizeOf60 _) (Tryd.isAgg60 _) fun v89 hv89 => lw_allocStore (R := RVisit) Z Z Z Z Z Z Z Tryd.zeroValue60 Tryd.sizeOf60 Z Z Z (by simp) hv89 hC306 fun p46 w309 hp46 hb14 hl309 hC309 => ?_))
        have ho614 := ho608.no hb14
        refine lw_nil (ew_then (cw_seq ?_))
        replace h := bind_some h
        obtain ⟨x13, hx13, h⟩ := h
        replace h := bind_some h
        obtain ⟨x14, hx14, h⟩ := h
        have lz32 := ((lz28.trans hl306).trans hl309)
        refine cw_sub (E' := [(3, (.pointer (some ⟨g1, 0, none⟩))), (9, (.int .i64 x9)), (10, (.pointer (some p46)))]) ⟨Z, Z, Z, trivial⟩ (cw_drawQ 12 [PEq (.pointer (some ⟨g1, 0, none⟩)), PV (RSlice (RSlice RRule)) M2 x1.1.Chains, PA RInt M2 x12.Chain, PEq (.int .i64 x12.Chain), PA (RSlice RRule) M2 x13, PV (RSlice RRule) M2 x13, PA RInt M2 x12.Place, PEq (.int .i64 x12.Place), PA RRule M2 x14, PA RInt M2 x14.Action, PEq (.int .i64 x14.Action), PEq (.int .i64 x9)] (by kernel_rfl) Z (by kernel_rfl) ⟨PEq.mono _, PV.mono _ _ _, PA.mono _ _ _, PEq.mono _, PA.mono _ _ _, PV.mono _ _ _, PA.mono _ _ _, PEq.mono _, PA.mono _ _ _, PA.mono _ _ _, PEq.mono _, PEq.mono _, trivial⟩ ⟨?_, ?_, ?_, ?_, ?_, ?_, ?_, ?_, ?_, ?_, ?_, ?_, trivial⟩ ?_)
        ·
         intro w310 D hS295 hd295
         exact dg_sub (E' := [(3, (.pointer (some ⟨g1, 0, none⟩)))]) ⟨Z, trivial⟩ (dg_plain Z (ow_fieldAddr Z Z Tryd.underlying45 Z (Tryd.sizeOf43 _) ⟨BX.refl _ _, Z⟩))
        ·
         intro w311 D hS296 hd296
         have hl311 := Le.no M2 hS296
         have ho618 := ho614.no hS296
         exact dg_sub (E' := [(115, (.pointer (some ⟨g1, 0, none⟩)))]) ⟨(dpE hd296 0 Z Z), trivial⟩ (dg_plain Z (ow_loadOwn1 Z Z Z ho618 (Tryd.isAgg43 _) Z ⟨BX.refl _ _, (VRep.mono (lz32.trans hl311) hw1)⟩))
        ·
         intro w312 D hS297 hd297
         have hl312 := Le.no M2 hS297
         exact dg_sub (E' := [(10, (.pointer (some p46)))]) ⟨Z, trivial⟩ (dg_plain Z (ow_fieldAddr Z Z Tryd.underlying60 Z (Tryd.sizeOf3 _) ⟨BX.refl _ _, ⟨_, Z, (ARep.mono hl312 (hp46.fld fld_Visit_Chain))⟩⟩))
        ·
         intro w313 D hS298 hd298
         have d782 : PA RInt M2 x12.Chain (D 2) w313 := dpA hd298 2 Z
         obtain ⟨p49, e35, ha29⟩ := d782
         refine dg_sub (E' := [(117, (.pointer (some p49)))]) ⟨(congrArg some e35), trivial⟩ (dg_plain Z (ow_load (R := RInt) Z Z ha29 (Tryd.sizeOf3 _) (Tryd.isAgg3 _) fun v94 hv94 => ?_))
         obtain rfl := vint_eq hv94
         exact ⟨BX.refl _ _, Z⟩
        ·
         intro w314 D hS299 hd299
         have d783 : PV (RSlice (RSlice RRule)) M2 x1.1.Chains (D 1) w314 := dpA hd299 1 Z
         generalize hq31 : (D 1) = v95 at d783
         exact dg_sub (E' := [(116, v95), (118, (.int .i64 x12.Chain))]) ⟨(congrArg some hq31), (dpE hd299 3 Z Z), trivial⟩ (dg_plain Z (ow_indexSlice (R := (RSlice RRule)) Z Z Z d783 Tryd.underlying43 (Tryd.sizeOf36 _) hx13 fun p50 hp50 => ⟨BX.refl _ _, ⟨_, Z, hp50⟩⟩))
        ·
         intro w315 D hS300 hd300
         have d785 : PA (RSlice RRule) M2 x13 (D 4) w315 := dpA hd300 4 Z
         obtain ⟨p51, e36, ha30⟩ := d785
         exact dg_sub (E' := [(119, (.pointer (some p51)))]) ⟨(congrArg some e36), trivial⟩ (dg_plain Z (ow_load (R := (RSlice RRule)) Z Z ha30 (Tryd.sizeOf36 _) (Tryd.isAgg36 _) fun v96 hv96 => ⟨BX.refl _ _, hv96⟩))
        ·
         intro w316 D hS301 hd301
         have hl316 := Le.no M2 hS301
         exact dg_sub (E' := [(10, (.pointer (some p46)))]) ⟨Z, trivial⟩ (dg_plain Z (ow_fieldAddr Z Z Tryd.underlying60 Z (Tryd.sizeOf3 _) ⟨BX.refl _ _, ⟨_, Z, (ARep.mono hl316 (hp46.fld fld_Visit_Place))⟩⟩))
        ·
         intro w317 D hS302 hd302
         have d786 : PA RInt M2 x12.Place (D 6) w317 := dpA hd302 6 Z
         obtain ⟨p52, e37, ha31⟩ := d786
         refine dg_sub (E' := [(121, (.pointer (some p52)))]) ⟨(congrArg some e37), trivial⟩ (dg_plain Z (ow_load (R := RInt) Z Z ha31 (Tryd.sizeOf3 _) (Tryd.isAgg3 _) fun v97 hv97 => ?_))
         obtain rfl := vint_eq hv97
         exact ⟨BX.refl _ _, Z⟩
        ·
         intro w318 D hS303 hd303
         have d787 : PV (RSlice RRule) M2 x13 (D 5) w318 := dpA hd303 5 Z
         generalize hq32 : (D 5) = v98 at d787
         exact dg_sub (E' := [(120, v98), (122, (.int .i64 x12.Place))]) ⟨(congrArg some hq32), (dpE hd303 7 Z Z), trivial⟩ (dg_plain Z (ow_indexSlice (R := RRule) Z Z Z d787 Tryd.underlying36 (Tryd.sizeOf42 _) hx14 fun p53 hp53 => ⟨BX.refl _ _, ⟨_, Z, hp53⟩⟩))
        ·
         intro w319 D hS304 hd304
         have d789 : PA RRule M2 x14 (D 8) w319 := dpA hd304 8 Z
         obtain ⟨p54, e38, ha32⟩ := d789
         exact dg_sub (E' := [(123, (.pointer (some p54)))]) ⟨(congrArg some e38), trivial⟩ (dg_plain Z (ow_fieldAddr Z Z Tryd.underlying42 Z (Tryd.sizeOf3 _) ⟨BX.refl _ _, ⟨_, Z, (ha32.fld fld_Rule_Action)⟩⟩))
        ·
         intro w320 D hS305 hd305
         have d790 : PA RInt M2 x14.Action (D 9) w320 := dpA hd305 9 Z
         obtain ⟨p55, e39, ha33⟩ := d790
         refine dg_sub (E' := [(124, (.pointer (some p55)))]) ⟨(congrArg some e39), trivial⟩ (dg_plain Z (ow_load (R := RInt) Z Z ha33 (Tryd.sizeOf3 _) (Tryd.isAgg3 _) fun v99 hv99 => ?_))
         obtain rfl := vint_eq hv99
         exact ⟨BX.refl _ _, Z⟩
        ·
         intro w321 D hS306 hd306
         exact dg_sub (E' := [(9, (.int .i64 x9))]) ⟨Z, trivial⟩ (dg_plain Z (ow_move Z Z ⟨BX.refl _ _, Z⟩))
        ·
         intro w322 D hS307 hd307
         have hC322 := hC309.no hS307
         refine lw_sub (E' := [(125, (.int .i64 x14.Action)), (126, (.int .i64 x9)), (3, (.pointer (some ⟨g1, 0, none⟩))), (9, (.int .i64 x9)), (10, (.pointer (some p46)))]) ⟨(dpE hd307 10 Z Z), (dpE hd307 11 Z Z), Z, Z, Z, trivial⟩ (lw_op Z Z Z (ow_eqlI Z Z Z fun bb33 hbb33 => lw_op Z Z Z (ow_assign Z Z (lw_nil (ew_then (cw_ret ?_))))))
         obtain rfl := Option.some.inj h
         exact ew_ret (res1 Z (.tmp Z)) ⟨_, Z, ((vbool_of hbb33)), hC322.bx⟩
    ·
     obtain rfl := hbb29.trans hc10
     refine lw_off Z Z Z Z Z Z (lw_off Z Z Z Z Z Z (lw_op Z Z Z (ow_pickF Z Z Z (lw_op Z Z Z (ow_move Z Z (lw_on Z Z Z Z Z Z (ow_move Z Z ?_)))))))
     have lz36 := ((hl7.trans hl305).trans hl306)
     refine lw_on Z Z Z Z Z Z (ow_len Z Z (VRep.mono lz36 hv4) Tryd.underlying57 Z (lw_on Z Z Z Z Z Z (ow_eqlI Z Z Z fun bb34 hbb34 => lw_op Z Z Z (ow_pickF Z Z Z (lw_nil (ew_then ?_))))))
     replace h := cond_some h
     rcases h with ⟨hc14, h⟩ | ⟨hc14, h⟩
     ·
      obtain rfl := hbb34.trans hc14
      refine cw_true Z (cw_seq (cw_region ?_))
      replace h := bind_some h
      obtain ⟨x15, hx15, h⟩ := h
      refine lw_op Z Z Z (ow_call Z Z Tryd.call18 (w_laws_alive (hG.mono (lz29.trans hl306)) hC306.old hx15) fun v100 w323 hv100 => ?_)
      obtain ⟨hv100, hb15⟩ := hv100
      have hC323 := hC306.no hb15
      obtain rfl := vbool_eq hv100
      refine lw_op Z Z Z (ow_assign Z Z (lw_nil (ew_then (cw_ret (ew_thenR ?_)))))
      obtain rfl := Option.some.inj h
      exact ew_ret (res1 Z (.tmp Z)) ⟨_, Z, ((vbool _)), hC323.bx⟩
     ·
      obtain rfl := hbb34.trans hc14
      refine cw_false Z (cw_skip (ew_then (cw_seq (cw_seq (cw_region (lw_op Z Z Z (ow_move Z Z (lw_op Z Z Z (ow_len Z Z (VRep.mono lz36 hv4) Tryd.underlying57 Z (lw_op Z Z Z (ow_eqlI Z Z Z fun bb35 hbb35 => lw_nil (ew_then ?_))))))))))))
      replace h := cond_some h
      rcases h with ⟨hc15, h⟩ | ⟨hc15, h⟩
      ·
       obtain rfl := hbb35.trans hc15
       refine cw_true Z (cw_seq (cw_region (lw_op Z Z Z (ow_assign Z Z (lw_nil (ew_then (cw_ret (ew_thenR ?_))))))))
       obtain rfl := Option.some.inj h
       exact ew_ret (res1 Z (.tmp Z)) ⟨_, Z, ((vbool _)), hC306.bx⟩
      ·
       obtain rfl := hbb35.trans hc15
       refine cw_false Z (cw_skip (ew_then (cw_seq (cw_region (lw_op Z Z Z (ow_move Z Z (lw_op Z Z Z (ow_move Z Z (lw_op Z Z Z (ow_len Z Z (VRep.mono lz36 hv4) Tryd.underlying57 Z (lw_op Z Z Z (ow_sub Z Z Z ?_))))))))))))
       replace h := bind_some h
       obtain ⟨x16, hx16, h⟩ := h
       refine lw_op Z Z Z (ow_indexSlice (R := RVisit) Z Z Z (VRep.mono lz36 hv4) Tryd.underlying57 (Tryd.sizeOf60 _) hx16 fun p56 hp56 => lw_op Z Z Z (ow_load (R := RVisit) Z Z hp56 (Tryd.sizeOf60 _) (Tryd.isAgg60 _) fun v101 hv101 => lw_allocStore (R := RVisit) Z Z Z Z Z Z Z Tryd.zeroValue60 Tryd.sizeOf60 Z Z Z (by simp) hv101 hC306 fun p57 w324 hp57 hb16 hl324 hC324 => ?_))
       have ho644 := ho608.no hb16
       refine lw_nil (ew_then (cw_seq ?_))
       replace h := bind_some h
       obtain ⟨x17, hx17, h⟩ := h
       replace h := bind_some h
       obtain ⟨x18, hx18, h⟩ := h
       have lz38 := ((lz28.trans hl306).trans hl324)
       refine cw_sub (E' := [(3, (.pointer (some ⟨g1, 0, none⟩))), (9, (.int .i64 x9)), (10, (.pointer (some p57)))]) ⟨Z, Z, Z, trivial⟩ (cw_drawQ 12 [PEq (.pointer (some ⟨g1, 0, none⟩)), PV (RSlice (RSlice RRule)) M2 x1.1.Chains, PA RInt M2 x16.Chain, PEq (.int .i64 x16.Chain), PA (RSlice RRule) M2 x17, PV (RSlice RRule) M2 x17, PA RInt M2 x16.Place, PEq (.int .i64 x16.Place), PA RRule M2 x18, PA RInt M2 x18.Action, PEq (.int .i64 x18.Action), PEq (.int .i64 x9)] (by kernel_rfl) Z (by kernel_rfl) ⟨PEq.mono _, PV.mono _ _ _, PA.mono _ _ _, PEq.mono _, PA.mono _ _ _, PV.mono _ _ _, PA.mono _ _ _, PEq.mono _, PA.mono _ _ _, PA.mono _ _ _, PEq.mono _, PEq.mono _, trivial⟩ ⟨?_, ?_, ?_, ?_, ?_, ?_, ?_, ?_, ?_, ?_, ?_, ?_, trivial⟩ ?_)
       ·
        intro w325 D hS308 hd308
        exact dg_sub (E' := [(3, (.pointer (some ⟨g1, 0, none⟩)))]) ⟨Z, trivial⟩ (dg_plain Z (ow_fieldAddr Z Z Tryd.underlying45 Z (Tryd.sizeOf43 _) ⟨BX.refl _ _, Z⟩))
       ·
        intro w326 D hS309 hd309
        have hl326 := Le.no M2 hS309
        have ho648 := ho644.no hS309
        exact dg_sub (E' := [(115, (.pointer (some ⟨g1, 0, none⟩)))]) ⟨(dpE hd309 0 Z Z), trivial⟩ (dg_plain Z (ow_loadOwn1 Z Z Z ho648 (Tryd.isAgg43 _) Z ⟨BX.refl _ _, (VRep.mono (lz38.trans hl326) hw1)⟩))
       ·
        intro w327 D hS310 hd310
        have hl327 := Le.no M2 hS310
        exact dg_sub (E' := [(10, (.pointer (some p57)))]) ⟨Z, trivial⟩ (dg_plain Z (ow_fieldAddr Z Z Tryd.underlying60 Z (Tryd.sizeOf3 _) ⟨BX.refl _ _, ⟨_, Z, (ARep.mono hl327 (hp57.fld fld_Visit_Chain))⟩⟩))
       ·
        intro w328 D hS311 hd311
        have d804 : PA RInt M2 x16.Chain (D 2) w328 := dpA hd311 2 Z
        obtain ⟨p60, e40, ha34⟩ := d804
        refine dg_sub (E' := [(117, (.pointer (some p60)))]) ⟨(congrArg some e40), trivial⟩ (dg_plain Z (ow_load (R := RInt) Z Z ha34 (Tryd.sizeOf3 _) (Tryd.isAgg3 _) fun v106 hv106 => ?_))
        obtain rfl := vint_eq hv106
        exact ⟨BX.refl _ _, Z⟩
       ·
        intro w329 D hS312 hd312
        have d805 : PV (RSlice (RSlice RRule)) M2 x1.1.Chains (D 1) w329 := dpA hd312 1 Z
        generalize hq33 : (D 1) = v107 at d805
        exact dg_sub (E' := [(116, v107), (118, (.int .i64 x16.Chain))]) ⟨(congrArg some hq33), (dpE hd312 3 Z Z), trivial⟩ (dg_plain Z (ow_indexSlice (R := (RSlice RRule)) Z Z Z d805 Tryd.underlying43 (Tryd.sizeOf36 _) hx17 fun p61 hp61 => ⟨BX.refl _ _, ⟨_, Z, hp61⟩⟩))
       ·
        intro w330 D hS313 hd313
        have d807 : PA (RSlice RRule) M2 x17 (D 4) w330 := dpA hd313 4 Z
        obtain ⟨p62, e41, ha35⟩ := d807
        exact dg_sub (E' := [(119, (.pointer (some p62)))]) ⟨(congrArg some e41), trivial⟩ (dg_plain Z (ow_load (R := (RSlice RRule)) Z Z ha35 (Tryd.sizeOf36 _) (Tryd.isAgg36 _) fun v108 hv108 => ⟨BX.refl _ _, hv108⟩))
       ·
        intro w331 D hS314 hd314
        have hl331 := Le.no M2 hS314
        exact dg_sub (E' := [(10, (.pointer (some p57)))]) ⟨Z, trivial⟩ (dg_plain Z (ow_fieldAddr Z Z Tryd.underlying60 Z (Tryd.sizeOf3 _) ⟨BX.refl _ _, ⟨_, Z, (ARep.mono hl331 (hp57.fld fld_Visit_Place))⟩⟩))
       ·
        intro w332 D hS315 hd315
        have d808 : PA RInt M2 x16.Place (D 6) w332 := dpA hd315 6 Z
        obtain ⟨p63, e42, ha36⟩ := d808
        refine dg_sub (E' := [(121, (.pointer (some p63)))]) ⟨(congrArg some e42), trivial⟩ (dg_plain Z (ow_load (R := RInt) Z Z ha36 (Tryd.sizeOf3 _) (Tryd.isAgg3 _) fun v109 hv109 => ?_))
        obtain rfl := vint_eq hv109
        exact ⟨BX.refl _ _, Z⟩
       ·
        intro w333 D hS316 hd316
        have d809 : PV (RSlice RRule) M2 x17 (D 5) w333 := dpA hd316 5 Z
        generalize hq34 : (D 5) = v110 at d809
        exact dg_sub (E' := [(120, v110), (122, (.int .i64 x16.Place))]) ⟨(congrArg some hq34), (dpE hd316 7 Z Z), trivial⟩ (dg_plain Z (ow_indexSlice (R := RRule) Z Z Z d809 Tryd.underlying36 (Tryd.sizeOf42 _) hx18 fun p64 hp64 => ⟨BX.refl _ _, ⟨_, Z, hp64⟩⟩))
       ·
        intro w334 D hS317 hd317
        have d811 : PA RRule M2 x18 (D 8) w334 := dpA hd317 8 Z
        obtain ⟨p65, e43, ha37⟩ := d811
        exact dg_sub (E' := [(123, (.pointer (some p65)))]) ⟨(congrArg some e43), trivial⟩ (dg_plain Z (ow_fieldAddr Z Z Tryd.underlying42 Z (Tryd.sizeOf3 _) ⟨BX.refl _ _, ⟨_, Z, (ha37.fld fld_Rule_Action)⟩⟩))
       ·
        intro w335 D hS318 hd318
        have d812 : PA RInt M2 x18.Action (D 9) w335 := dpA hd318 9 Z
        obtain ⟨p66, e44, ha38⟩ := d812
        refine dg_sub (E' := [(124, (.pointer (some p66)))]) ⟨(congrArg some e44), trivial⟩ (dg_plain Z (ow_load (R := RInt) Z Z ha38 (Tryd.sizeOf3 _) (Tryd.isAgg3 _) fun v111 hv111 => ?_))
        obtain rfl := vint_eq hv111
        exact ⟨BX.refl _ _, Z⟩
       ·
        intro w336 D hS319 hd319
        exact dg_sub (E' := [(9, (.int .i64 x9))]) ⟨Z, trivial⟩ (dg_plain Z (ow_move Z Z ⟨BX.refl _ _, Z⟩))
       ·
        intro w337 D hS320 hd320
        have hC337 := hC324.no hS320
        refine lw_sub (E' := [(125, (.int .i64 x18.Action)), (126, (.int .i64 x9)), (3, (.pointer (some ⟨g1, 0, none⟩))), (9, (.int .i64 x9)), (10, (.pointer (some p57)))]) ⟨(dpE hd320 10 Z Z), (dpE hd320 11 Z Z), Z, Z, Z, trivial⟩ (lw_op Z Z Z (ow_eqlI Z Z Z fun bb36 hbb36 => lw_op Z Z Z (ow_assign Z Z (lw_nil (ew_then (cw_ret ?_))))))
        obtain rfl := Option.some.inj h
        exact ew_ret (res1 Z (.tmp Z)) ⟨_, Z, ((vbool_of hbb36)), hC337.bx⟩


end Go.PF
