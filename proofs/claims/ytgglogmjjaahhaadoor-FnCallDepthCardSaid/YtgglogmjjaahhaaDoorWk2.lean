/- The walks; no condition. -/
import Derived.Test.YtgglogmjjaahhaaDoorProg
import Derived.Test.YtgglogmjjaahhaaDoorWk1
import Derived.Test.YtgglogmjjaahhaaDoorPFFresh
set_option maxRecDepth 100000
set_option maxHeartbeats 4000000
namespace Go.PF
open Go Go.RowKit Go.Proofs

theorem w_spec_RuleValid {w : World} {M : Nat → Prop} (hG : ARep (RArr 4 RShape) w M shapes ⟨0, 0, none⟩) (hO : ∀ b, M b → b < w.heap.size) {v0p : Value} {a_r : Rule} (h0 : VRep RRule w M a_r v0p) {r : Bool} (h : F.spec_RuleValid a_r = some r) :
  Calls Tryd.prog 94 [v0p].toArray w fun e w' => ∃ v, e = .returned v ∧ VRep RBool w' M r v ∧ BX No w w' := by
 have hC : Cx No w M w M := Cx.start hO (fun _ e => e.elim)
 refine walk (N := 31) Tryd.func94 Z Tryd.ntmps94 Z (cw_seq (cw_region (lw_op Z Z Z (ow_box (R := RRule) Z Z h0 hC fun p1 w1 hp1 hb1 hl1 hC1 => lw_op Z Z Z (ow_assign Z Z (lw_nil (ew_then (cw_seq (cw_region (lw_op Z Z Z (ow_fieldAddr Z Z Tryd.underlying42 Z (Tryd.sizeOf27 _) (lw_op Z Z Z (ow_load (R := (RSlice RTest)) Z Z (hp1.fld fld_Rule_Tests) (Tryd.sizeOf27 _) (Tryd.isAgg27 _) fun v1 hv1 => ?_)))))))))))))
 replace h := bind_some h
 obtain ⟨x1, hx1, h⟩ := h
 refine lw_op Z Z Z (ow_call Z Z Tryd.call98 (w_spec_TestsValid (hG.mono hl1) hC1.old hv1 hx1) fun v2 w2 hv2 => ?_)
 obtain ⟨hv2, hb2⟩ := hv2
 have hl2 := Le.no M hb2
 have hC2 := hC1.no hb2
 obtain rfl := vbool_eq hv2
 refine lw_op Z Z Z (ow_move Z Z ?_)
 replace h := cond_some h
 rcases h with ⟨hc1, h⟩ | ⟨hc1, h⟩
 ·
  subst hc1
  refine lw_on Z Z Z Z Z Z (ow_fieldAddr Z Z Tryd.underlying42 Z (Tryd.sizeOf3 _) (lw_on Z Z Z Z Z Z (ow_load (R := RInt) Z Z (ARep.mono hl2 (hp1.fld fld_Rule_Action)) (Tryd.sizeOf3 _) (Tryd.isAgg3 _) fun v3 hv3 => ?_)))
  obtain rfl := vint_eq hv3
  replace h := bind_some h
  obtain ⟨x2, hx2, h⟩ := h
  refine lw_on Z Z Z Z Z Z (ow_call Z Z Tryd.call70 (w_spec_l1In (hG.mono (hl1.trans hl2)) hC2.old hx2) fun v4 w3 hv4 => ?_)
  obtain ⟨hv4, hb3⟩ := hv4
  have hl3 := Le.no M hb3
  have hC3 := hC2.no hb3
  obtain rfl := vbool_eq hv4
  refine lw_op Z Z Z (ow_pickT Z Z Z (lw_op Z Z Z (ow_move Z Z ?_)))
  replace h := cond_some h
  rcases h with ⟨hc2, h⟩ | ⟨hc2, h⟩
  ·
   subst hc2
   refine lw_on Z Z Z Z Z Z (ow_fieldAddr Z Z Tryd.underlying42 Z (Tryd.sizeOf3 _) (lw_on Z Z Z Z Z Z (ow_load (R := RInt) Z Z (ARep.mono (hl2.trans hl3) (hp1.fld fld_Rule_Action)) (Tryd.sizeOf3 _) (Tryd.isAgg3 _) fun v5 hv5 => ?_)))
   obtain rfl := vint_eq hv5
   refine lw_on Z Z Z Z Z Z (ow_eqlI Z Z Z fun bb1 hbb1 => lw_on Z Z Z Z Z Z (ow_move Z Z ?_))
   replace h := cond_some h
   rcases h with ⟨hc3, h⟩ | ⟨hc3, h⟩
   ·
    obtain rfl := hbb1.trans hc3
    refine lw_on Z Z Z Z Z Z (ow_fieldAddr Z Z Tryd.underlying42 Z (Tryd.sizeOf3 _) (lw_on Z Z Z Z Z Z (ow_load (R := RInt) Z Z (ARep.mono (hl2.trans hl3) (hp1.fld fld_Rule_Chain)) (Tryd.sizeOf3 _) (Tryd.isAgg3 _) fun v6 hv6 => ?_)))
    obtain rfl := vint_eq hv6
    replace h := bind_some h
    obtain ⟨x3, hx3, h⟩ := h
    have lz1 := ((hl1.trans hl2).trans hl3)
    refine lw_on Z Z Z Z Z Z (ow_call Z Z Tryd.call70 (w_spec_l1In (hG.mono lz1) hC3.old hx3) fun v7 w4 hv7 => ?_)
    obtain ⟨hv7, hb4⟩ := hv7
    have hl4 := Le.no M hb4
    have hC4 := hC3.no hb4
    obtain rfl := vbool_eq hv7
    refine lw_on Z Z Z Z Z Z (ow_pickT Z Z Z (lw_on Z Z Z Z Z Z (ow_move Z Z ?_)))
    replace h := cond_some h
    rcases h with ⟨hc4, h⟩ | ⟨hc4, h⟩
    ·
     subst hc4
     refine lw_off Z Z Z Z Z Z (lw_off Z Z Z Z Z Z (lw_off Z Z Z Z Z Z (lw_off Z Z Z Z Z Z (lw_off' Z Z Z Z Z Z (lw_off' Z Z Z Z Z Z (lw_off' Z Z Z Z Z Z (lw_off Z Z Z Z Z Z (lw_on Z Z Z Z Z Z (ow_pickT Z Z Z (lw_op Z Z Z (ow_pickT Z Z Z (lw_op Z Z Z (ow_assign Z Z (lw_nil (ew_then (cw_ret ?_))))))))))))))))
     obtain rfl := Option.some.inj h
     exact ew_ret (res1 Z (.tmp Z)) ⟨_, Z, ((vbool _)), hC4.bx⟩
    ·
     subst hc4
     refine lw_on Z Z Z Z Z Z (ow_fieldAddr Z Z Tryd.underlying42 Z (Tryd.sizeOf3 _) ?_)
     have lz2 := ((hl2.trans hl3).trans hl4)
     refine lw_on Z Z Z Z Z Z (ow_load (R := RInt) Z Z (ARep.mono lz2 (hp1.fld fld_Rule_Action)) (Tryd.sizeOf3 _) (Tryd.isAgg3 _) fun v8 hv8 => ?_)
     obtain rfl := vint_eq hv8
     refine lw_on Z Z Z Z Z Z (ow_neqI Z Z Z fun bb2 hbb2 => lw_on Z Z Z Z Z Z (ow_move Z Z ?_))
     replace h := cond_some h
     rcases h with ⟨hc5, h⟩ | ⟨hc5, h⟩
     ·
      obtain rfl := hbb2.trans hc5
      refine lw_on Z Z Z Z Z Z (ow_fieldAddr Z Z Tryd.underlying42 Z (Tryd.sizeOf3 _) (lw_on Z Z Z Z Z Z (ow_load (R := RInt) Z Z (ARep.mono lz2 (hp1.fld fld_Rule_Chain)) (Tryd.sizeOf3 _) (Tryd.isAgg3 _) fun v9 hv9 => ?_)))
      obtain rfl := vint_eq hv9
      refine lw_on Z Z Z Z Z Z (ow_eqlI Z Z Z fun bb3 hbb3 => lw_on Z Z Z Z Z Z (ow_pickT Z Z Z (lw_on Z Z Z Z Z Z (ow_pickF Z Z Z (lw_op Z Z Z (ow_pickT Z Z Z (lw_op Z Z Z (ow_assign Z Z (lw_nil (ew_then (cw_ret ?_)))))))))))
      obtain rfl := Option.some.inj h
      exact ew_ret (res1 Z (.tmp Z)) ⟨_, Z, ((vbool_of hbb3)), hC4.bx⟩
     ·
      obtain rfl := hbb2.trans hc5
      refine lw_off Z Z Z Z Z Z (lw_off Z Z Z Z Z Z (lw_off Z Z Z Z Z Z (lw_on Z Z Z Z Z Z (ow_pickF Z Z Z (lw_on Z Z Z Z Z Z (ow_pickF Z Z Z (lw_op Z Z Z (ow_pickT Z Z Z (lw_op Z Z Z (ow_assign Z Z (lw_nil (ew_then (cw_ret ?_)))))))))))))
      obtain rfl := Option.some.inj h
      exact ew_ret (res1 Z (.tmp Z)) ⟨_, Z, ((vbool _)), hC4.bx⟩
   ·
    obtain rfl := hbb1.trans hc3
    refine lw_off Z Z Z Z Z Z (lw_off Z Z Z Z Z Z (lw_off Z Z Z Z Z Z (lw_on Z Z Z Z Z Z (ow_pickF Z Z Z (lw_on Z Z Z Z Z Z (ow_move Z Z (lw_on Z Z Z Z Z Z (ow_fieldAddr Z Z Tryd.underlying42 Z (Tryd.sizeOf3 _) (lw_on Z Z Z Z Z Z (ow_load (R := RInt) Z Z (ARep.mono (hl2.trans hl3) (hp1.fld fld_Rule_Action)) (Tryd.sizeOf3 _) (Tryd.isAgg3 _) fun v10 hv10 => ?_))))))))))
    obtain rfl := vint_eq hv10
    refine lw_on Z Z Z Z Z Z (ow_neqI Z Z Z fun bb4 hbb4 => lw_on Z Z Z Z Z Z (ow_move Z Z ?_))
    replace h := cond_some h
    rcases h with ⟨hc6, h⟩ | ⟨hc6, h⟩
    ·
     obtain rfl := hbb4.trans hc6
     refine lw_on Z Z Z Z Z Z (ow_fieldAddr Z Z Tryd.underlying42 Z (Tryd.sizeOf3 _) (lw_on Z Z Z Z Z Z (ow_load (R := RInt) Z Z (ARep.mono (hl2.trans hl3) (hp1.fld fld_Rule_Chain)) (Tryd.sizeOf3 _) (Tryd.isAgg3 _) fun v11 hv11 => ?_)))
     obtain rfl := vint_eq hv11
     refine lw_on Z Z Z Z Z Z (ow_eqlI Z Z Z fun bb5 hbb5 => lw_on Z Z Z Z Z Z (ow_pickT Z Z Z (lw_on Z Z Z Z Z Z (ow_pickF Z Z Z (lw_op Z Z Z (ow_pickT Z Z Z (lw_op Z Z Z (ow_assign Z Z (lw_nil (ew_then (cw_ret ?_)))))))))))
     obtain rfl := Option.some.inj h
     exact ew_ret (res1 Z (.tmp Z)) ⟨_, Z, ((vbool_of hbb5)), hC3.bx⟩
    ·
     obtain rfl := hbb4.trans hc6
     refine lw_off Z Z Z Z Z Z (lw_off Z Z Z Z Z Z (lw_off Z Z Z Z Z Z (lw_on Z Z Z Z Z Z (ow_pickF Z Z Z (lw_on Z Z Z Z Z Z (ow_pickF Z Z Z (lw_op Z Z Z (ow_pickT Z Z Z (lw_op Z Z Z (ow_assign Z Z (lw_nil (ew_then (cw_ret ?_)))))))))))))
     obtain rfl := Option.some.inj h
     exact ew_ret (res1 Z (.tmp Z)) ⟨_, Z, ((vbool _)), hC3.bx⟩
  ·
   subst hc2
   refine lw_off Z Z Z Z Z Z (lw_off Z Z Z Z Z Z (lw_off Z Z Z Z Z Z (lw_off Z Z Z Z Z Z (lw_off' Z Z Z Z Z Z (lw_off' Z Z Z Z Z Z (lw_off' Z Z Z Z Z Z (lw_off Z Z Z Z Z Z (lw_off Z Z Z Z Z Z (lw_off' Z Z Z Z Z Z (lw_off' Z Z Z Z Z Z (lw_off' Z Z Z Z Z Z (lw_off' Z Z Z Z Z Z (lw_off' Z Z Z Z Z Z (lw_off' Z Z Z Z Z Z (lw_off' Z Z Z Z Z Z (lw_off' Z Z Z Z Z Z (lw_off Z Z Z Z Z Z (lw_op Z Z Z (ow_pickF Z Z Z (lw_op Z Z Z (ow_assign Z Z (lw_nil (ew_then (cw_ret ?_))))))))))))))))))))))))
   obtain rfl := Option.some.inj h
   exact ew_ret (res1 Z (.tmp Z)) ⟨_, Z, ((vbool _)), hC3.bx⟩
 ·
  subst hc1
  refine lw_off Z Z Z Z Z Z (lw_off Z Z Z Z Z Z (lw_off Z Z Z Z Z Z (lw_op Z Z Z (ow_pickF Z Z Z (lw_op Z Z Z (ow_move Z Z (lw_off Z Z Z Z Z Z (lw_off Z Z Z Z Z Z (lw_off Z Z Z Z Z Z (lw_off Z Z Z Z Z Z (lw_off' Z Z Z Z Z Z (lw_off' Z Z Z Z Z Z (lw_off' Z Z Z Z Z Z (lw_off Z Z Z Z Z Z (lw_off Z Z Z Z Z Z (lw_off' Z Z Z Z Z Z (lw_off' Z Z Z Z Z Z (lw_off' Z Z Z Z Z Z (lw_off' Z Z Z Z Z Z (lw_off' Z Z Z Z Z Z (lw_off' Z Z Z Z Z Z (lw_off' Z Z Z Z Z Z (lw_off' Z Z Z Z Z Z (lw_off Z Z Z Z Z Z (lw_op Z Z Z (ow_pickF Z Z Z (lw_op Z Z Z (ow_assign Z Z ?_))))))))))))))))))))))))))))
  refine lw_nil (ew_then (cw_ret ?_))
  obtain rfl := Option.some.inj h
  exact ew_ret (res1 Z (.tmp Z)) ⟨_, Z, ((vbool _)), hC2.bx⟩

theorem w_spec_RulesValid {w : World} {M : Nat → Prop} (hG : ARep (RArr 4 RShape) w M shapes ⟨0, 0, none⟩) (hO : ∀ b, M b → b < w.heap.size) {v0p : Value} {a_list : List Rule} (h0 : VRep (RSlice RRule) w M a_list v0p) {r : Bool} (h : F.spec_RulesValid a_list = some r) :
  Calls Tryd.prog 69 [v0p].toArray w fun e w' => ∃ v, e = .returned v ∧ VRep RBool w' M r v ∧ BX No w w' := by
 have hC : Cx No w M w M := Cx.start hO (fun _ e => e.elim)
 refine walk (N := 19) Tryd.func69 Z Tryd.ntmps69 Z (cw_seq (cw_region (lw_op Z Z Z (ow_assign Z Z (lw_nil (ew_then (cw_seq (cw_seq (cw_region (lw_op Z Z Z (ow_assign Z Z (lw_nil (ew_then ?_)))))))))))))
 replace h := bind_some h
 obtain ⟨lr1, hlr1, h⟩ := h
 refine cw_for hlr1 (fun s a w' => ∃ (M' : Nat → Prop), Fits 19 [(0, v0p), (3, (.int .i64 s))] a ∧ Le w M w' M' ∧ Cx No w M w' M') ?_ ?_ ?_
 ·
  intro a ha
  exact ⟨M, ha.sub ⟨Z, Z, trivial⟩, Le.refl _ _, hC⟩
 ·
  rintro k1 a w1 sr1 ⟨M1, hF1, hl1, hC1⟩ hb1 hR1
  refine cw_at (E := [(0, v0p), (3, (.int .i64 k1))]) hF1 (cw_seq (cw_seq (cw_region (lw_op Z Z Z (ow_move Z Z (lw_op Z Z Z (ow_move Z Z (lw_op Z Z Z (ow_len Z Z (VRep.mono hl1 h0) Tryd.underlying36 Z (lw_op Z Z Z (ow_lss Z Z Z fun bb1 hbb1 => lw_nil (ew_then ?_))))))))))))
  replace hb1 := cond_some hb1
  rcases hb1 with ⟨hc1, hb1⟩ | ⟨hc1, hb1⟩
  ·
   obtain rfl := hbb1.trans hc1
   refine cw_true Z (cw_skip (ew_then (cw_seq (cw_block (cw_seq (cw_region (lw_op Z Z Z (ow_move Z Z (lw_op Z Z Z (ow_move Z Z ?_))))))))))
   replace hb1 := bind_some hb1
   obtain ⟨x1, hx1, hb1⟩ := hb1
   refine lw_op Z Z Z (ow_indexSlice (R := RRule) Z Z Z (VRep.mono hl1 h0) Tryd.underlying36 (Tryd.sizeOf42 _) hx1 fun p1 hp1 => lw_op Z Z Z (ow_load (R := RRule) Z Z hp1 (Tryd.sizeOf42 _) (Tryd.isAgg42 _) fun v2 hv2 => ?_))
   replace hb1 := bind_some hb1
   obtain ⟨x2, hx2, hb1⟩ := hb1
   refine lw_op Z Z Z (ow_call Z Z Tryd.call94 (w_spec_RuleValid (hG.mono hl1) hC1.old hv2 hx2) fun v3 w2 hv3 => ?_)
   obtain ⟨hv3, hb2⟩ := hv3
   have hl2 := Le.no M1 hb2
   have hC2 := hC1.no hb2
   obtain rfl := vbool_eq hv3
   refine lw_op Z Z Z (ow_not Z Z (lw_nil (ew_then ?_)))
   replace hb1 := cond_some hb1
   rcases hb1 with ⟨hc2, hb1⟩ | ⟨hc2, hb1⟩
   ·
    subst hc2
    exact cw_false Z (cw_skip (ew_blockN (ew_then (cw_region (lw_op Z Z Z (ow_move Z Z (lw_op Z Z Z (ow_add Z Z Z (lw_op Z Z Z (ow_assign Z Z (lw_nil (ew_nxt (W (k1 + 1)) hb1 fun a ha => ⟨M1, (ha.sub ⟨Z, Z, trivial⟩), (hl1.trans hl2), hC2⟩))))))))))))
   ·
    subst hc2
    refine cw_true Z (cw_seq (cw_region (lw_op Z Z Z (ow_assign Z Z (lw_nil (ew_then (cw_ret (ew_blockR (ew_thenR (ew_thenR (ew_blockR (ew_brkR (ew_thenR ?_)))))))))))))
    have e1 := hR1 _ (Option.some.inj hb1).symm
    subst e1
    obtain rfl := Option.some.inj h
    exact ew_ret (res1 Z (.tmp Z)) ⟨_, Z, ((vbool _)), hC2.bx⟩
  ·
   obtain rfl := hbb1.trans hc1
   exact cw_false Z (cw_exit (ew_thenX (ew_thenX (ew_blockX (ew_brk k1 hb1 fun a ha => ⟨M1, (ha.sub ⟨Z, Z, trivial⟩), hl1, hC1⟩)))))
 ·
  rintro k2 a w3 hlr2 ⟨M2, hF2, hl3, hC3⟩
  subst hlr2
  refine ew_at (E := [(0, v0p), (3, (.int .i64 k2))]) hF2 (ew_then (cw_seq (cw_region (lw_op Z Z Z (ow_move Z Z (lw_op Z Z Z (ow_len Z Z (VRep.mono hl3 h0) Tryd.underlying36 Z (lw_op Z Z Z (ow_leq Z Z Z fun bb2 hbb2 => lw_op Z Z Z (ow_assign Z Z (lw_nil (ew_then (cw_ret ?_)))))))))))))
  obtain rfl := Option.some.inj h
  exact ew_ret (res1 Z (.tmp Z)) ⟨_, Z, ((vbool_of hbb2)), hC3.bx⟩

theorem w_spec_l8Order {w : World} {M : Nat → Prop} (_hG : ARep (RArr 4 RShape) w M shapes ⟨0, 0, none⟩) (hO : ∀ b, M b → b < w.heap.size) {v0p : Value} {a_s : Ruleset} (h0 : VRep RRuleset w M a_s v0p) {r : (List Int)} (h : F.spec_l8Order a_s = some r) :
  Calls Tryd.prog 71 [v0p].toArray w fun e w' => ∃ v, e = .returned v ∧ VRep (RSlice RInt) w' M r v ∧ BX No w w' := by
 obtain ⟨i3, hi3, hz3, hs3, hy3⟩ := info3
 obtain ⟨i4, hi4, hz4, hs4, hy4⟩ := info4
 have hC : Cx No w M w M := Cx.start hO (fun _ e => e.elim)
 clear _hG
 refine walk (N := 74) Tryd.func71 Z Tryd.ntmps71 Z (cw_seq (cw_region (lw_op Z Z Z (ow_box (R := RRuleset) Z Z h0 hC fun p1 w1 hp1 hb1 hl1 hC1 => lw_op Z Z Z (ow_assign Z Z (lw_nil (ew_then (cw_seq (cw_region (lw_op Z Z Z (ow_fieldAddr Z Z Tryd.underlying45 Z (Tryd.sizeOf43 _) (lw_op Z Z Z (ow_load (R := (RSlice (RSlice RRule))) Z Z (hp1.fld fld_Ruleset_Chains) (Tryd.sizeOf43 _) (Tryd.isAgg43 _) fun v1 hv1 => lw_op Z Z Z (ow_len Z Z hv1 Tryd.underlying43 Z ?_))))))))))))))
 replace h := bind_some h
 obtain ⟨mk1, hmk1, h⟩ := h
 refine lw_op Z Z Z (ow_make (R := RBool) Z Z Z Tryd.underlying56 hi4 hz4 hs4 hy4 Z Z (vbool false) hmk1 hC1 fun v2 w2 M1 hr1 hb2 hl2 hC2 hM1 hat1 => lw_op Z Z Z (ow_assign Z Z (lw_nil (ew_then (cw_seq (cw_region (lw_op Z Z Z (ow_buildSlice0 (R := RInt) (e := 3) Z (by kernel_rfl) hC2 fun p2 w3 M2 hr2 hb3 hl3 hC3 hM2 hat2 => ?_))))))))
 have hr3 := hr1.go hb3 (fun _ _ e => e) hl3 hM2
 refine lw_op Z Z Z (ow_assign Z Z (lw_nil (ew_then (cw_seq (cw_seq (cw_region (lw_op Z Z Z (ow_assign Z Z (lw_nil (ew_then ?_))))))))))
 replace h := bind_some h
 obtain ⟨lr1, hlr1, h⟩ := h
 refine cw_for hlr1 (fun s a w' => ∃ (M' : Nat → Prop) (v0c : Value), Fits 74 [(1, (.pointer (some p1))), (3, v2), (4, v0c), (5, (.int .i64 s.2.1))] a ∧ Le w3 M2 w' M' ∧ Cx No w M w' M' ∧ OwnRow RInt w.heap.size 3 w' M' s.1 v0c ∧ OwnRow RBool w.heap.size 4 w' M' s.2.2 v2) ?_ ?_ ?_
 ·
  intro a ha
  exact ⟨M2, (.slice (some p2) 0 0), ha.sub ⟨Z, Z, Z, Z, trivial⟩, Le.refl _ _, hC3, hr2, hr3⟩
 ·
  rintro ⟨y1, k1, y2⟩ a w4 sr1 ⟨M3, v3, hF1, hl4, hC4, hw1, hw2⟩ hb4 hR1
  refine cw_at (E := [(1, (.pointer (some p1))), (3, v2), (4, v3), (5, (.int .i64 k1))]) hF1 (cw_seq (cw_seq (cw_region (lw_op Z Z Z (ow_move Z Z (lw_op Z Z Z (ow_fieldAddr Z Z Tryd.underlying45 Z (Tryd.sizeOf43 _) ?_)))))))
  have lz1 := ((hl2.trans hl3).trans hl4)
  refine lw_op Z Z Z (ow_load (R := (RSlice (RSlice RRule))) Z Z (ARep.mono lz1 (hp1.fld fld_Ruleset_Chains)) (Tryd.sizeOf43 _) (Tryd.isAgg43 _) fun v6 hv6 => lw_op Z Z Z (ow_len Z Z hv6 Tryd.underlying43 Z (lw_op Z Z Z (ow_lss Z Z Z fun bb1 hbb1 => lw_nil (ew_then ?_)))))
  replace hb4 := cond_some hb4
  rcases hb4 with ⟨hc1, hb4⟩ | ⟨hc1, hb4⟩
  ·
   obtain rfl := hbb1.trans hc1
   refine cw_true Z (cw_skip (ew_then (cw_seq (cw_block (cw_seq (cw_region (lw_op Z Z Z (ow_assign Z Z (lw_nil (ew_then ?_))))))))))
   replace hb4 := bind_some hb4
   obtain ⟨lr2, hlr2, hb4⟩ := hb4
   refine cw_for hlr2 (fun s a w' => ∃ (M' : Nat → Prop) (v0c : Value), Fits 74 [(1, (.pointer (some p1))), (3, v2), (4, v0c), (5, (.int .i64 k1)), (6, (.int .i64 s.2.1))] a ∧ Le w4 M3 w' M' ∧ Cx No w M w' M' ∧ OwnRow RInt w.heap.size 3 w' M' s.1 v0c ∧ OwnRow RBool w.heap.size 4 w' M' s.2.2 v2) ?_ ?_ ?_
   ·
    intro a ha
    exact ⟨M3, v3, ha.sub ⟨Z, Z, Z, Z, Z, trivial⟩, Le.refl _ _, hC4, hw1, hw2⟩
   ·
    rintro ⟨y3, k2, y4⟩ a w5 sr2 ⟨M4, v7, hF2, hl5, hC5, hw3, hw4⟩ hb5 hR2
    refine cw_at (E := [(1, (.pointer (some p1))), (3, v2), (4, v7), (5, (.int .i64 k1)), (6, (.int .i64 k2))]) hF2 (cw_seq (cw_seq (cw_region (lw_op Z Z Z (ow_move Z Z (lw_op Z Z Z (ow_fieldAddr Z Z Tryd.underlying45 Z (Tryd.sizeOf43 _) (lw_op Z Z Z (ow_load (R := (RSlice (RSlice RRule))) Z Z (ARep.mono (lz1.trans hl5) (hp1.fld fld_Ruleset_Chains)) (Tryd.sizeOf43 _) (Tryd.isAgg43 _) fun v10 hv10 => lw_op Z Z Z (ow_len Z Z hv10 Tryd.underlying43 Z (lw_op Z Z Z (ow_lss Z Z Z fun bb2 hbb2 => lw_nil (ew_then ?_)))))))))))))
    replace hb5 := cond_some hb5
    rcases hb5 with ⟨hc2, hb5⟩ | ⟨hc2, hb5⟩
    ·
     obtain rfl := hbb2.trans hc2
     refine cw_true Z (cw_skip (ew_then (cw_seq (cw_block (cw_seq (cw_region (lw_op Z Z Z (ow_move Z Z (lw_op Z Z Z (ow_move Z Z ?_))))))))))
     replace hb5 := bind_some hb5
     obtain ⟨x1, hx1, hb5⟩ := hb5
     refine lw_op Z Z Z (ow_indexRow (R := RBool) Z Z Z hw4 Tryd.underlying56 (Tryd.sizeOf4 _) hx1 (lw_op Z Z Z (ow_loadElRow (R := RBool) (S := RBool) Z Z Z hw4 (orow_blk hw4 hx1) hx1 (Fld.whole RBool) (Tryd.sizeOf4 _) (Tryd.isAgg4 _) fun v11 hv11 => ?_)))
     obtain rfl := vbool_eq hv11
     refine lw_op Z Z Z (ow_not Z Z (lw_op Z Z Z (ow_assign Z Z (lw_nil (ew_then (cw_seq (cw_seq (cw_region (lw_op Z Z Z (ow_assign Z Z (lw_nil (ew_then ?_))))))))))))
     replace hb5 := bind_some hb5
     obtain ⟨lr3, hlr3, hb5⟩ := hb5
     refine cw_for hlr3 (fun s a w' => ∃ (M' : Nat → Prop), Fits 74 [(1, (.pointer (some p1))), (3, v2), (4, v7), (5, (.int .i64 k1)), (6, (.int .i64 k2)), (7, (.bool s.1)), (8, (.int .i64 s.2.1))] a ∧ Le w5 M4 w' M' ∧ Cx No w M w' M' ∧ OwnRow RBool w.heap.size 4 w' M' s.2.2.1 v2 ∧ OwnRow RInt w.heap.size 3 w' M' s.2.2.2 v7) ?_ ?_ ?_
     ·
      intro a ha
      exact ⟨M4, ha.sub ⟨Z, Z, Z, Z, Z, Z, Z, trivial⟩, Le.refl _ _, hC5, hw4, hw3⟩
     ·
      rintro ⟨y5, k3, y6, y7⟩ a w6 sr3 ⟨M5, hF3, hl6, hC6, hw5, hw6⟩ hb6 hR3
      refine cw_at (E := [(1, (.pointer (some p1))), (3, v2), (4, v7), (5, (.int .i64 k1)), (6, (.int .i64 k2)), (7, (.bool y5)), (8, (.int .i64 k3))]) hF3 (cw_seq (cw_seq (cw_region (lw_op Z Z Z (ow_move Z Z (lw_op Z Z Z (ow_fieldAddr Z Z Tryd.underlying45 Z (Tryd.sizeOf43 _) ?_)))))))
      have lz2 := ((lz1.trans hl5).trans hl6)
      refine lw_op Z Z Z (ow_load (R := (RSlice (RSlice RRule))) Z Z (ARep.mono lz2 (hp1.fld fld_Ruleset_Chains)) (Tryd.sizeOf43 _) (Tryd.isAgg43 _) fun v16 hv16 => lw_op Z Z Z (ow_move Z Z ?_))
      replace hb6 := bind_some hb6
      obtain ⟨x2, hx2, hb6⟩ := hb6
      refine lw_op Z Z Z (ow_indexSlice (R := (RSlice RRule)) Z Z Z hv16 Tryd.underlying43 (Tryd.sizeOf36 _) hx2 fun p3 hp3 => lw_op Z Z Z (ow_load (R := (RSlice RRule)) Z Z hp3 (Tryd.sizeOf36 _) (Tryd.isAgg36 _) fun v17 hv17 => lw_op Z Z Z (ow_len Z Z hv17 Tryd.underlying36 Z (lw_op Z Z Z (ow_lss Z Z Z fun bb3 hbb3 => lw_nil (ew_then ?_))))))
      replace hb6 := cond_some hb6
      rcases hb6 with ⟨hc3, hb6⟩ | ⟨hc3, hb6⟩
      ·
       obtain rfl := hbb3.trans hc3
       refine cw_true Z (cw_skip (ew_then (cw_seq (cw_block (cw_seq (cw_region (lw_op Z Z Z (ow_fieldAddr Z Z Tryd.underlying45 Z (Tryd.sizeOf43 _) (lw_op Z Z Z (ow_load (R := (RSlice (RSlice RRule))) Z Z (ARep.mono lz2 (hp1.fld fld_Ruleset_Chains)) (Tryd.sizeOf43 _) (Tryd.isAgg43 _) fun v18 hv18 => lw_op Z Z Z (ow_move Z Z (lw_op Z Z Z (ow_indexSlice (R := (RSlice RRule)) Z Z Z hv18 Tryd.underlying43 (Tryd.sizeOf36 _) hx2 fun p4 hp4 => lw_op Z Z Z (ow_load (R := (RSlice RRule)) Z Z hp4 (Tryd.sizeOf36 _) (Tryd.isAgg36 _) fun v19 hv19 => lw_op Z Z Z (ow_move Z Z ?_)))))))))))))))
       replace hb6 := bind_some hb6
       obtain ⟨x3, hx3, hb6⟩ := hb6
       refine lw_op Z Z Z (ow_indexSlice (R := RRule) Z Z Z hv19 Tryd.underlying36 (Tryd.sizeOf42 _) hx3 fun p5 hp5 => lw_op Z Z Z (ow_load (R := RRule) Z Z hp5 (Tryd.sizeOf42 _) (Tryd.isAgg42 _) fun v20 hv20 => lw_allocStore (R := RRule) Z Z Z Z Z Z Z Tryd.zeroValue42 Tryd.sizeOf42 Z Z Z (by simp) hv20 hC6 fun p6 w7 hp6 hb7 hl7 hC7 => ?_))
       have hr4 := hw5.no hb7
       have hr5 := hw6.no hb7
       refine lw_nil (ew_then (cw_region (lw_op Z Z Z (ow_move Z Z (lw_op Z Z Z (ow_move Z Z ?_))))))
       replace hb6 := cond_some hb6
       rcases hb6 with ⟨hc4, hb6⟩ | ⟨hc4, hb6⟩
       ·
        subst hc4
        refine lw_on Z Z Z Z Z Z (ow_fieldAddr Z Z Tryd.underlying42 Z (Tryd.sizeOf3 _) (lw_on Z Z Z Z Z Z (ow_load (R := RInt) Z Z (hp6.fld fld_Rule_Action) (Tryd.sizeOf3 _) (Tryd.isAgg3 _) fun v21 hv21 => ?_)))
        obtain rfl := vint_eq hv21
        refine lw_on Z Z Z Z Z Z (ow_neqI Z Z Z fun bb4 hbb4 => lw_on Z Z Z Z Z Z (ow_move Z Z ?_))
        replace hb6 := cond_some hb6
        rcases hb6 with ⟨hc5, hb6⟩ | ⟨hc5, hb6⟩
        ·
         obtain rfl := hbb4.trans hc5
         exact lw_off Z Z Z Z Z Z (lw_off Z Z Z Z Z Z (lw_off Z Z Z Z Z Z (lw_off Z Z Z Z Z Z (lw_off Z Z Z Z Z Z (lw_on Z Z Z Z Z Z (ow_pickT Z Z Z (lw_op Z Z Z (ow_pickT Z Z Z (lw_op Z Z Z (ow_assign Z Z (lw_nil (ew_blockN (ew_then (cw_region (lw_op Z Z Z (ow_move Z Z (lw_op Z Z Z (ow_add Z Z Z (lw_op Z Z Z (ow_assign Z Z (lw_nil (ew_nxt (true, (W (k3 + 1)), y6, y7) hb6 fun a ha => ⟨M5, (ha.sub ⟨Z, Z, Z, Z, Z, Z, Z, trivial⟩), (hl6.trans hl7), hC7, hr4, hr5⟩))))))))))))))))))))))
        ·
         obtain rfl := hbb4.trans hc5
         refine lw_on Z Z Z Z Z Z (ow_move Z Z (lw_on Z Z Z Z Z Z (ow_fieldAddr Z Z Tryd.underlying42 Z (Tryd.sizeOf3 _) (lw_on Z Z Z Z Z Z (ow_load (R := RInt) Z Z (hp6.fld fld_Rule_Chain) (Tryd.sizeOf3 _) (Tryd.isAgg3 _) fun v22 hv22 => ?_)))))
         obtain rfl := vint_eq hv22
         replace hb6 := bind_some hb6
         obtain ⟨x4, hx4, hb6⟩ := hb6
         refine lw_on Z Z Z Z Z Z (ow_indexRow (R := RBool) Z Z Z hr4 Tryd.underlying56 (Tryd.sizeOf4 _) hx4 (lw_on Z Z Z Z Z Z (ow_loadElRow (R := RBool) (S := RBool) Z Z Z hr4 (orow_blk hr4 hx4) hx4 (Fld.whole RBool) (Tryd.sizeOf4 _) (Tryd.isAgg4 _) fun v23 hv23 => ?_)))
         obtain rfl := vbool_eq hv23
         exact lw_on Z Z Z Z Z Z (ow_pickF Z Z Z (lw_op Z Z Z (ow_pickT Z Z Z (lw_op Z Z Z (ow_assign Z Z (lw_nil (ew_blockN (ew_then (cw_region (lw_op Z Z Z (ow_move Z Z (lw_op Z Z Z (ow_add Z Z Z (lw_op Z Z Z (ow_assign Z Z (lw_nil (ew_nxt (x4, (W (k3 + 1)), y6, y7) hb6 fun a ha => ⟨M5, (ha.sub ⟨Z, Z, Z, Z, Z, Z, Z, trivial⟩), (hl6.trans hl7), hC7, hr4, hr5⟩)))))))))))))))))
       ·
        subst hc4
        exact lw_off Z Z Z Z Z Z (lw_off Z Z Z Z Z Z (lw_off Z Z Z Z Z Z (lw_off Z Z Z Z Z Z (lw_off' Z Z Z Z Z Z (lw_off' Z Z Z Z Z Z (lw_off' Z Z Z Z Z Z (lw_off' Z Z Z Z Z Z (lw_off' Z Z Z Z Z Z (lw_off Z Z Z Z Z Z (lw_op Z Z Z (ow_pickF Z Z Z (lw_op Z Z Z (ow_assign Z Z (lw_nil (ew_blockN (ew_then (cw_region (lw_op Z Z Z (ow_move Z Z (lw_op Z Z Z (ow_add Z Z Z (lw_op Z Z Z (ow_assign Z Z (lw_nil (ew_nxt (false, (W (k3 + 1)), y6, y7) hb6 fun a ha => ⟨M5, (ha.sub ⟨Z, Z, Z, Z, Z, Z, Z, trivial⟩), (hl6.trans hl7), hC7, hr4, hr5⟩)))))))))))))))))))))))))
      ·
       obtain rfl := hbb3.trans hc3
       exact cw_false Z (cw_exit (ew_thenX (ew_thenX (ew_blockX (ew_brk (y5, k3, y6, y7) hb6 fun a ha => ⟨M5, (ha.sub ⟨Z, Z, Z, Z, Z, Z, Z, trivial⟩), hl6, hC6, hw5, hw6⟩)))))
     ·
      rintro ⟨y8, k4, y9, y10⟩ a w8 hlr4 ⟨M6, hF4, hl8, hC8, hw7, hw8⟩
      subst hlr4
      refine ew_at (E := [(1, (.pointer (some p1))), (3, v2), (4, v7), (5, (.int .i64 k1)), (6, (.int .i64 k2)), (7, (.bool y8)), (8, (.int .i64 k4))]) hF4 (ew_then (cw_seq (cw_region (lw_op Z Z Z (ow_move Z Z (lw_nil (ew_then ?_)))))))
      replace hb5 := cond_some hb5
      rcases hb5 with ⟨hc6, hb5⟩ | ⟨hc6, hb5⟩
      ·
       subst hc6
       refine cw_true Z (cw_seq (cw_region (lw_op Z Z Z (ow_move Z Z (lw_op Z Z Z (ow_move Z Z ?_))))))
       replace hb5 := bind_some hb5
       obtain ⟨x5, hx5, hb5⟩ := hb5
       refine lw_op Z Z Z (ow_indexRow (R := RBool) Z Z Z hw7 Tryd.underlying56 (Tryd.sizeOf4 _) hx5 (lw_op0 Z Z (ow_storeElRow (X := No) (R := RBool) (S := RBool) Z Z Z Z hw7 (orow_blk hw7 hx5) hx5 (FldSet.whole RBool) (Tryd.sizeOf4 _) (vbool _) (Nat.le_refl _) hC8 fun w9 ho1 hb8 hl9 hC9 => ?_)))
       have hr6 := hw8.go hb8 (fun k hk e => orow_row_ne hw8 hw7 (by decide) hk (by rw [orow_blk hw7 hx5]; exact congrArg some e.symm)) hl9 (fun _ h => h)
       refine lw_nil (ew_then (cw_region (lw_op Z Z Z (ow_move Z Z (lw_op Z Z Z (ow_move Z Z (lw_op Z Z Z (ow_buildSlice (R := RInt) (xs := [k2]) (cs := #[(.int .i64 k2)]) (e := 3) Z Z (by kernel_rfl) Z Z ⟨_, _, Z, (vint _).cells, Z⟩ hC9 fun p7 w10 hw9 hb9 hl10 hC10 => ?_))))))))
       have hr7 := ho1.no hb9
       have hr8 := hr6.no hb9
       replace hb5 := bind_some hb5
       obtain ⟨z1, hz1, hb5⟩ := hb5
       refine lw_op Z Z Z (ow_append (R := RInt) Z Z Z Z Tryd.underlying52 hi3 hz3 hs3 hy3 Z Z Z Z hr8 hw9 hz1 hC10 fun v28 w11 M7 hr9 hb10 hl11 hC11 hM3 hat3 => ?_)
       have hr10 := hr7.goRow hr8 hb10 hl11 hM3 (by decide)
       refine lw_op Z Z Z (ow_assign Z Z (lw_nil (ew_blockN (ew_then (cw_region (lw_op Z Z Z (ow_move Z Z (lw_op Z Z Z (ow_add Z Z Z (lw_op Z Z Z (ow_assign Z Z (lw_nil ?_))))))))))))
       have lz3 := ((((hl5.trans hl8).trans hl9).trans hl10).trans hl11)
       exact ew_nxt (z1, (W (k2 + 1)), (List.set y9 (k2 : Int).toNat true)) hb5 fun a ha => ⟨M7, v28, (ha.sub ⟨Z, Z, Z, Z, Z, trivial⟩), lz3, hC11, hr9, hr10⟩
      ·
       subst hc6
       exact cw_false Z (cw_skip (ew_blockN (ew_then (cw_region (lw_op Z Z Z (ow_move Z Z (lw_op Z Z Z (ow_add Z Z Z (lw_op Z Z Z (ow_assign Z Z (lw_nil (ew_nxt (y10, (W (k2 + 1)), y9) hb5 fun a ha => ⟨M6, v7, (ha.sub ⟨Z, Z, Z, Z, Z, trivial⟩), (hl5.trans hl8), hC8, hw8, hw7⟩))))))))))))
    ·
     obtain rfl := hbb2.trans hc2
     exact cw_false Z (cw_exit (ew_thenX (ew_thenX (ew_blockX (ew_brk (y3, k2, y4) hb5 fun a ha => ⟨M4, v7, (ha.sub ⟨Z, Z, Z, Z, Z, trivial⟩), hl5, hC5, hw3, hw4⟩)))))
   ·
    rintro ⟨y11, k5, y12⟩ a w12 hlr5 ⟨M8, v29, hF5, hl12, hC12, hw10, hw11⟩
    subst hlr5
    exact ew_at (E := [(1, (.pointer (some p1))), (3, v2), (4, v29), (5, (.int .i64 k1)), (6, (.int .i64 k5))]) hF5 (ew_blockN (ew_then (cw_region (lw_op Z Z Z (ow_move Z Z (lw_op Z Z Z (ow_add Z Z Z (lw_op Z Z Z (ow_assign Z Z (lw_nil (ew_nxt (y11, (W (k1 + 1)), y12) hb4 fun a ha => ⟨M8, v29, (ha.sub ⟨Z, Z, Z, Z, trivial⟩), (hl4.trans hl12), hC12, hw10, hw11⟩)))))))))))
  ·
   obtain rfl := hbb1.trans hc1
   exact cw_false Z (cw_exit (ew_thenX (ew_thenX (ew_blockX (ew_brk (y1, k1, y2) hb4 fun a ha => ⟨M3, v3, (ha.sub ⟨Z, Z, Z, Z, trivial⟩), hl4, hC4, hw1, hw2⟩)))))
 ·
  rintro ⟨y13, k6, y14⟩ a w13 hlr6 ⟨M9, v32, hF6, hl13, hC13, hw12, hw13⟩
  subst hlr6
  refine ew_at (E := [(1, (.pointer (some p1))), (3, v2), (4, v32), (5, (.int .i64 k6))]) hF6 (ew_then (cw_seq (cw_region (lw_op Z Z Z (ow_move Z Z (lw_op Z Z Z (ow_assign Z Z (lw_nil (ew_then (cw_ret ?_))))))))))
  obtain rfl := Option.some.inj h
  exact ew_ret (res1 Z (.tmp Z)) ⟨_, Z, (hw12.freezeBack hC13 hO), hC13.bx⟩

theorem w_spec_RulesetValid {w : World} {M : Nat → Prop} (hG : ARep (RArr 4 RShape) w M shapes ⟨0, 0, none⟩) (hO : ∀ b, M b → b < w.heap.size) {v0p : Value} {a_s : Ruleset} (h0 : VRep RRuleset w M a_s v0p) {r : Bool} (h : F.spec_RulesetValid a_s = some r) :
  Calls Tryd.prog 26 [v0p].toArray w fun e w' => ∃ v, e = .returned v ∧ VRep RBool w' M r v ∧ BX No w w' := by
 have hC : Cx No w M w M := Cx.start hO (fun _ e => e.elim)
 refine walk (N := 55) Tryd.func26 Z Tryd.ntmps26 Z (cw_seq (cw_region (lw_op Z Z Z (ow_box (R := RRuleset) Z Z h0 hC fun p1 w1 hp1 hb1 hl1 hC1 => lw_op Z Z Z (ow_assign Z Z (lw_nil (ew_then (cw_seq (cw_seq (cw_region (lw_op Z Z Z (ow_assign Z Z (lw_nil (ew_then ?_))))))))))))))
 replace h := bind_some h
 obtain ⟨lr1, hlr1, h⟩ := h
 refine cw_for hlr1 (fun s a w' => ∃ (M' : Nat → Prop), Fits 55 [(1, (.pointer (some p1))), (3, (.int .i64 s))] a ∧ Le w1 M w' M' ∧ Cx No w M w' M') ?_ ?_ ?_
 ·
  intro a ha
  exact ⟨M, ha.sub ⟨Z, Z, trivial⟩, Le.refl _ _, hC1⟩
 ·
  rintro k1 a w2 sr1 ⟨M1, hF1, hl2, hC2⟩ hb2 hR1
  refine cw_at (E := [(1, (.pointer (some p1))), (3, (.int .i64 k1))]) hF1 (cw_seq (cw_seq (cw_region (lw_op Z Z Z (ow_move Z Z (lw_op Z Z Z (ow_fieldAddr Z Z Tryd.underlying45 Z (Tryd.sizeOf43 _) (lw_op Z Z Z (ow_load (R := (RSlice (RSlice RRule))) Z Z (ARep.mono hl2 (hp1.fld fld_Ruleset_Chains)) (Tryd.sizeOf43 _) (Tryd.isAgg43 _) fun v2 hv2 => lw_op Z Z Z (ow_len Z Z hv2 Tryd.underlying43 Z (lw_op Z Z Z (ow_lss Z Z Z fun bb1 hbb1 => lw_nil (ew_then ?_)))))))))))))
  replace hb2 := cond_some hb2
  rcases hb2 with ⟨hc1, hb2⟩ | ⟨hc1, hb2⟩
  ·
   obtain rfl := hbb1.trans hc1
   refine cw_true Z (cw_skip (ew_then (cw_seq (cw_block (cw_seq (cw_seq (cw_region (lw_op Z Z Z (ow_fieldAddr Z Z Tryd.underlying45 Z (Tryd.sizeOf43 _) (lw_op Z Z Z (ow_load (R := (RSlice (RSlice RRule))) Z Z (ARep.mono hl2 (hp1.fld fld_Ruleset_Chains)) (Tryd.sizeOf43 _) (Tryd.isAgg43 _) fun v3 hv3 => lw_op Z Z Z (ow_move Z Z ?_))))))))))))
   replace hb2 := bind_some hb2
   obtain ⟨x1, hx1, hb2⟩ := hb2
   refine lw_op Z Z Z (ow_indexSlice (R := (RSlice RRule)) Z Z Z hv3 Tryd.underlying43 (Tryd.sizeOf36 _) hx1 fun p2 hp2 => lw_op Z Z Z (ow_load (R := (RSlice RRule)) Z Z hp2 (Tryd.sizeOf36 _) (Tryd.isAgg36 _) fun v4 hv4 => ?_))
   replace hb2 := bind_some hb2
   obtain ⟨x2, hx2, hb2⟩ := hb2
   refine lw_op Z Z Z (ow_call Z Z Tryd.call69 (w_spec_RulesValid (hG.mono (hl1.trans hl2)) hC2.old hv4 hx2) fun v5 w3 hv5 => ?_)
   obtain ⟨hv5, hb3⟩ := hv5
   have hl3 := Le.no M1 hb3
   have hC3 := hC2.no hb3
   obtain rfl := vbool_eq hv5
   refine lw_op Z Z Z (ow_not Z Z (lw_nil (ew_then ?_)))
   replace hb2 := cond_some hb2
   rcases hb2 with ⟨hc2, hb2⟩ | ⟨hc2, hb2⟩
   ·
    subst hc2
    refine cw_false Z (cw_skip (ew_then (cw_seq (cw_region (lw_op Z Z Z (ow_assign Z Z (lw_nil (ew_then ?_))))))))
    replace hb2 := bind_some hb2
    obtain ⟨lr2, hlr2, hb2⟩ := hb2
    refine cw_for hlr2 (fun s a w' => ∃ (M' : Nat → Prop), Fits 55 [(1, (.pointer (some p1))), (3, (.int .i64 k1)), (4, (.int .i64 s))] a ∧ Le w3 M1 w' M' ∧ Cx No w M w' M') ?_ ?_ ?_
    ·
     intro a ha
     exact ⟨M1, ha.sub ⟨Z, Z, Z, trivial⟩, Le.refl _ _, hC3⟩
    ·
     rintro k2 a w4 sr2 ⟨M2, hF2, hl4, hC4⟩ hb4 hR2
     refine cw_at (E := [(1, (.pointer (some p1))), (3, (.int .i64 k1)), (4, (.int .i64 k2))]) hF2 (cw_seq (cw_seq (cw_region (lw_op Z Z Z (ow_move Z Z (lw_op Z Z Z (ow_fieldAddr Z Z Tryd.underlying45 Z (Tryd.sizeOf43 _) ?_)))))))
     have lz1 := ((hl2.trans hl3).trans hl4)
     refine lw_op Z Z Z (ow_load (R := (RSlice (RSlice RRule))) Z Z (ARep.mono lz1 (hp1.fld fld_Ruleset_Chains)) (Tryd.sizeOf43 _) (Tryd.isAgg43 _) fun v7 hv7 => lw_op Z Z Z (ow_move Z Z (lw_op Z Z Z (ow_indexSlice (R := (RSlice RRule)) Z Z Z hv7 Tryd.underlying43 (Tryd.sizeOf36 _) hx1 fun p3 hp3 => lw_op Z Z Z (ow_load (R := (RSlice RRule)) Z Z hp3 (Tryd.sizeOf36 _) (Tryd.isAgg36 _) fun v8 hv8 => lw_op Z Z Z (ow_len Z Z hv8 Tryd.underlying36 Z (lw_op Z Z Z (ow_lss Z Z Z fun bb2 hbb2 => lw_nil (ew_then ?_)))))))))
     replace hb4 := cond_some hb4
     rcases hb4 with ⟨hc3, hb4⟩ | ⟨hc3, hb4⟩
     ·
      obtain rfl := hbb2.trans hc3
      refine cw_true Z (cw_skip (ew_then (cw_seq (cw_block (cw_seq ?_)))))
      replace hb4 := bind_some hb4
      obtain ⟨x3, hx3, hb4⟩ := hb4
      refine cw_sub (E' := [(1, (.pointer (some p1))), (3, (.int .i64 k1)), (4, (.int .i64 k2))]) ⟨Z, Z, Z, trivial⟩ (cw_drawQ 12 [PA (RSlice (RSlice RRule)) M2 a_s.Chains, PV (RSlice (RSlice RRule)) M2 a_s.Chains, PEq (.int .i64 k1), PA (RSlice RRule) M2 x1, PV (RSlice RRule) M2 x1, PEq (.int .i64 k2), PA RRule M2 x3, PA RInt M2 x3.Chain, PEq (.int .i64 x3.Chain), PA (RSlice (RSlice RRule)) M2 a_s.Chains, PV (RSlice (RSlice RRule)) M2 a_s.Chains, PEq (.int .i64 (a_s.Chains.length : Int))] (by kernel_rfl) Z (by kernel_rfl) ⟨PA.mono _ _ _, PV.mono _ _ _, PEq.mono _, PA.mono _ _ _, PV.mono _ _ _, PEq.mono _, PA.mono _ _ _, PA.mono _ _ _, PEq.mono _, PA.mono _ _ _, PV.mono _ _ _, PEq.mono _, trivial⟩ ⟨?_, ?_, ?_, ?_, ?_, ?_, ?_, ?_, ?_, ?_, ?_, ?_, trivial⟩ ?_)
      ·
       intro w5 D hS1 hd1
       have hl5 := Le.no M2 hS1
       exact dg_sub (E' := [(1, (.pointer (some p1)))]) ⟨Z, trivial⟩ (dg_plain Z (ow_fieldAddr Z Z Tryd.underlying45 Z (Tryd.sizeOf43 _) ⟨BX.refl _ _, ⟨_, Z, (ARep.mono (lz1.trans hl5) (hp1.fld fld_Ruleset_Chains))⟩⟩))
      ·
       intro w6 D hS2 hd2
       have d1 : PA (RSlice (RSlice RRule)) M2 a_s.Chains (D 0) w6 := dpA hd2 0 Z
       obtain ⟨p6, e1, ha1⟩ := d1
       exact dg_sub (E' := [(29, (.pointer (some p6)))]) ⟨(congrArg some e1), trivial⟩ (dg_plain Z (ow_load (R := (RSlice (RSlice RRule))) Z Z ha1 (Tryd.sizeOf43 _) (Tryd.isAgg43 _) fun v13 hv13 => ⟨BX.refl _ _, hv13⟩))
      ·
       intro w7 D hS3 hd3
       exact dg_sub (E' := [(3, (.int .i64 k1))]) ⟨Z, trivial⟩ (dg_plain Z (ow_move Z Z ⟨BX.refl _ _, Z⟩))
      ·
       intro w8 D hS4 hd4
       have d2 : PV (RSlice (RSlice RRule)) M2 a_s.Chains (D 1) w8 := dpA hd4 1 Z
       generalize hq1 : (D 1) = v14 at d2
       exact dg_sub (E' := [(30, v14), (31, (.int .i64 k1))]) ⟨(congrArg some hq1), (dpE hd4 2 Z Z), trivial⟩ (dg_plain Z (ow_indexSlice (R := (RSlice RRule)) Z Z Z d2 Tryd.underlying43 (Tryd.sizeOf36 _) hx1 fun p7 hp7 => ⟨BX.refl _ _, ⟨_, Z, hp7⟩⟩))
      ·
       intro w9 D hS5 hd5
       have d4 : PA (RSlice RRule) M2 x1 (D 3) w9 := dpA hd5 3 Z
       obtain ⟨p8, e2, ha2⟩ := d4
       exact dg_sub (E' := [(32, (.pointer (some p8)))]) ⟨(congrArg some e2), trivial⟩ (dg_plain Z (ow_load (R := (RSlice RRule)) Z Z ha2 (Tryd.sizeOf36 _) (Tryd.isAgg36 _) fun v15 hv15 => ⟨BX.refl _ _, hv15⟩))
      ·
       intro w10 D hS6 hd6
       exact dg_sub (E' := [(4, (.int .i64 k2))]) ⟨Z, trivial⟩ (dg_plain Z (ow_move Z Z ⟨BX.refl _ _, Z⟩))
      ·
       intro w11 D hS7 hd7
       have d5 : PV (RSlice RRule) M2 x1 (D 4) w11 := dpA hd7 4 Z
       generalize hq2 : (D 4) = v16 at d5
       exact dg_sub (E' := [(33, v16), (34, (.int .i64 k2))]) ⟨(congrArg some hq2), (dpE hd7 5 Z Z), trivial⟩ (dg_plain Z (ow_indexSlice (R := RRule) Z Z Z d5 Tryd.underlying36 (Tryd.sizeOf42 _) hx3 fun p9 hp9 => ⟨BX.refl _ _, ⟨_, Z, hp9⟩⟩))
      ·
       intro w12 D hS8 hd8
       have d7 : PA RRule M2 x3 (D 6) w12 := dpA hd8 6 Z
       obtain ⟨p10, e3, ha3⟩ := d7
       exact dg_sub (E' := [(35, (.pointer (some p10)))]) ⟨(congrArg some e3), trivial⟩ (dg_plain Z (ow_fieldAddr Z Z Tryd.underlying42 Z (Tryd.sizeOf3 _) ⟨BX.refl _ _, ⟨_, Z, (ha3.fld fld_Rule_Chain)⟩⟩))
      ·
       intro w13 D hS9 hd9
       have d8 : PA RInt M2 x3.Chain (D 7) w13 := dpA hd9 7 Z
       obtain ⟨p11, e4, ha4⟩ := d8
       refine dg_sub (E' := [(36, (.pointer (some p11)))]) ⟨(congrArg some e4), trivial⟩ (dg_plain Z (ow_load (R := RInt) Z Z ha4 (Tryd.sizeOf3 _) (Tryd.isAgg3 _) fun v17 hv17 => ?_))
       obtain rfl := vint_eq hv17
       exact ⟨BX.refl _ _, Z⟩
      ·
       intro w14 D hS10 hd10
       have hl14 := Le.no M2 hS10
       exact dg_sub (E' := [(1, (.pointer (some p1)))]) ⟨Z, trivial⟩ (dg_plain Z (ow_fieldAddr Z Z Tryd.underlying45 Z (Tryd.sizeOf43 _) ⟨BX.refl _ _, ⟨_, Z, (ARep.mono (lz1.trans hl14) (hp1.fld fld_Ruleset_Chains))⟩⟩))
      ·
       intro w15 D hS11 hd11
       have d9 : PA (RSlice (RSlice RRule)) M2 a_s.Chains (D 9) w15 := dpA hd11 9 Z
       obtain ⟨p12, e5, ha5⟩ := d9
       exact dg_sub (E' := [(38, (.pointer (some p12)))]) ⟨(congrArg some e5), trivial⟩ (dg_plain Z (ow_load (R := (RSlice (RSlice RRule))) Z Z ha5 (Tryd.sizeOf43 _) (Tryd.isAgg43 _) fun v18 hv18 => ⟨BX.refl _ _, hv18⟩))
      ·
       intro w16 D hS12 hd12
       have d10 : PV (RSlice (RSlice RRule)) M2 a_s.Chains (D 10) w16 := dpA hd12 10 Z
       generalize hq3 : (D 10) = v19 at d10
       exact dg_sub (E' := [(39, v19)]) ⟨(congrArg some hq3), trivial⟩ (dg_plain Z (ow_len Z Z d10 Tryd.underlying43 Z ⟨BX.refl _ _, Z⟩))
      ·
       intro w17 D hS13 hd13
       have hl17 := Le.no M2 hS13
       have hC17 := hC4.no hS13
       refine lw_sub (E' := [(37, (.int .i64 x3.Chain)), (40, (.int .i64 (a_s.Chains.length : Int))), (1, (.pointer (some p1))), (3, (.int .i64 k1)), (4, (.int .i64 k2))]) ⟨(dpE hd13 8 Z Z), (dpE hd13 11 Z Z), Z, Z, Z, trivial⟩ (lw_op Z Z Z (ow_geq Z Z Z fun bb3 hbb3 => lw_nil (ew_then ?_)))
       replace hb4 := cond_some hb4
       rcases hb4 with ⟨hc4, hb4⟩ | ⟨hc4, hb4⟩
       ·
        obtain rfl := hbb3.trans hc4
        refine cw_true Z (cw_seq (cw_region (lw_op Z Z Z (ow_assign Z Z (lw_nil (ew_then (cw_ret (ew_blockR (ew_thenR (ew_thenR (ew_blockR (ew_brkR (ew_blockR (ew_thenR (ew_thenR (ew_blockR (ew_brkR (ew_thenR ?_))))))))))))))))))
        have e6 := hR2 _ (Option.some.inj hb4).symm
        subst e6
        have e7 := hR1 _ (Option.some.inj hb2).symm
        subst e7
        obtain rfl := Option.some.inj h
        exact ew_ret (res1 Z (.tmp Z)) ⟨_, Z, ((vbool _)), hC17.bx⟩
       ·
        obtain rfl := hbb3.trans hc4
        exact cw_false Z (cw_skip (ew_blockN (ew_then (cw_region (lw_op Z Z Z (ow_move Z Z (lw_op Z Z Z (ow_add Z Z Z (lw_op Z Z Z (ow_assign Z Z (lw_nil (ew_nxt (W (k2 + 1)) hb4 fun a ha => ⟨M2, (ha.sub ⟨Z, Z, Z, trivial⟩), (hl4.trans hl17), hC17⟩))))))))))))
     ·
      obtain rfl := hbb2.trans hc3
      exact cw_false Z (cw_exit (ew_thenX (ew_thenX (ew_blockX (ew_brk k2 hb4 fun a ha => ⟨M2, (ha.sub ⟨Z, Z, Z, trivial⟩), hl4, hC4⟩)))))
    ·
     rintro k3 a w18 hlr3 ⟨M3, hF3, hl18, hC18⟩
     subst hlr3
     refine ew_at (E := [(1, (.pointer (some p1))), (3, (.int .i64 k1)), (4, (.int .i64 k3))]) hF3 (ew_blockN (ew_then (cw_region (lw_op Z Z Z (ow_move Z Z (lw_op Z Z Z (ow_add Z Z Z (lw_op Z Z Z (ow_assign Z Z (lw_nil ?_))))))))))
     have lz3 := ((hl2.trans hl3).trans hl18)
     exact ew_nxt (W (k1 + 1)) hb2 fun a ha => ⟨M3, (ha.sub ⟨Z, Z, trivial⟩), lz3, hC18⟩
   ·
    subst hc2
    refine cw_true Z (cw_seq (cw_region (lw_op Z Z Z (ow_assign Z Z (lw_nil (ew_then (cw_ret (ew_thenR (ew_blockR (ew_thenR (ew_thenR (ew_blockR (ew_brkR (ew_thenR ?_))))))))))))))
    have e8 := hR1 _ (Option.some.inj hb2).symm
    subst e8
    obtain rfl := Option.some.inj h
    exact ew_ret (res1 Z (.tmp Z)) ⟨_, Z, ((vbool _)), hC3.bx⟩
  ·
   obtain rfl := hbb1.trans hc1
   exact cw_false Z (cw_exit (ew_thenX (ew_thenX (ew_blockX (ew_brk k1 hb2 fun a ha => ⟨M1, (ha.sub ⟨Z, Z, trivial⟩), hl2, hC2⟩)))))
 ·
  rintro k4 a w19 hlr4 ⟨M4, hF4, hl19, hC19⟩
  subst hlr4
  refine ew_at (E := [(1, (.pointer (some p1))), (3, (.int .i64 k4))]) hF4 (ew_then (cw_seq ?_))
  replace h := bind_some h
  obtain ⟨x4, hx4, h⟩ := h
  replace h := cond_some h
  rcases h with ⟨hc5, h⟩ | ⟨hc5, h⟩
  ·
   subst hc5
   replace h := bind_some h
   obtain ⟨x5, hx5, h⟩ := h
   have lz4 := (hl1.trans hl19)
   refine cw_sub (E' := [(1, (.pointer (some p1)))]) ⟨Z, trivial⟩ (cw_drawQ 11 [PA (RSlice (RSlice RRule)) M4 a_s.Chains, PV (RSlice (RSlice RRule)) M4 a_s.Chains, PEq (.int .i64 (a_s.Chains.length : Int)), PEq (.bool true), PEq (.bool true), PV RRuleset M4 a_s, PV (RSlice RInt) M4 x5, PEq (.int .i64 (x5.length : Int)), PA (RSlice (RSlice RRule)) M4 a_s.Chains, PV (RSlice (RSlice RRule)) M4 a_s.Chains, PEq (.int .i64 (a_s.Chains.length : Int))] (by kernel_rfl) Z (by kernel_rfl) ⟨PA.mono _ _ _, PV.mono _ _ _, PEq.mono _, PEq.mono _, PEq.mono _, PV.mono _ _ _, PV.mono _ _ _, PEq.mono _, PA.mono _ _ _, PV.mono _ _ _, PEq.mono _, trivial⟩ ⟨?_, ?_, ?_, ?_, ?_, ?_, ?_, ?_, ?_, ?_, ?_, trivial⟩ ?_)
   ·
    intro w22 D hS14 hd14
    have hl22 := Le.no M4 hS14
    exact dg_sub (E' := [(1, (.pointer (some p1)))]) ⟨Z, trivial⟩ (dg_plain Z (ow_fieldAddr Z Z Tryd.underlying45 Z (Tryd.sizeOf43 _) ⟨BX.refl _ _, ⟨_, Z, (ARep.mono (hl19.trans hl22) (hp1.fld fld_Ruleset_Chains))⟩⟩))
   ·
    intro w23 D hS15 hd15
    have d23 : PA (RSlice (RSlice RRule)) M4 a_s.Chains (D 0) w23 := dpA hd15 0 Z
    obtain ⟨p13, e9, ha6⟩ := d23
    exact dg_sub (E' := [(42, (.pointer (some p13)))]) ⟨(congrArg some e9), trivial⟩ (dg_plain Z (ow_load (R := (RSlice (RSlice RRule))) Z Z ha6 (Tryd.sizeOf43 _) (Tryd.isAgg43 _) fun v27 hv27 => ⟨BX.refl _ _, hv27⟩))
   ·
    intro w24 D hS16 hd16
    have d24 : PV (RSlice (RSlice RRule)) M4 a_s.Chains (D 1) w24 := dpA hd16 1 Z
    generalize hq4 : (D 1) = v28 at d24
    exact dg_sub (E' := [(43, v28)]) ⟨(congrArg some hq4), trivial⟩ (dg_plain Z (ow_len Z Z d24 Tryd.underlying43 Z ⟨BX.refl _ _, Z⟩))
   ·
    intro w25 D hS17 hd17
    have hl25 := Le.no M4 hS17
    have hC25 := hC19.no hS17
    refine dg_sub (E' := [(44, (.int .i64 (a_s.Chains.length : Int)))]) ⟨(dpE hd17 2 Z Z), trivial⟩ (dg_plain Z (ow_call Z Z Tryd.call70 (w_spec_l1In (hG.mono (lz4.trans hl25)) hC25.old hx4) fun v29 w26 hv29 => ?_))
    obtain ⟨hv29, hb7⟩ := hv29
    obtain rfl := vbool_eq hv29
    exact ⟨hb7, Z⟩
   ·
    intro w27 D hS18 hd18
    exact dg_sub (E' := [(45, (.bool true))]) ⟨(dpE hd18 3 Z Z), trivial⟩ (dg_plain Z (ow_move Z Z ⟨BX.refl _ _, Z⟩))
   ·
    intro w28 D hS19 hd19
    have hl28 := Le.no M4 hS19
    exact dg_sub (E' := [(46, (.bool true)), (1, (.pointer (some p1)))]) ⟨(dpE hd19 4 Z Z), Z, trivial⟩ (dg_on Z Z Z Z (ow_load (R := RRuleset) Z Z (ARep.mono (hl19.trans hl28) hp1) (Tryd.sizeOf45 _) (Tryd.isAgg45 _) fun v30 hv30 => ⟨BX.refl _ _, hv30⟩))
   ·
    intro w29 D hS20 hd20
    have hl29 := Le.no M4 hS20
    have hC29 := hC19.no hS20
    have d29 : PV RRuleset M4 a_s (D 5) w29 := dpA hd20 5 Z
    generalize hq5 : (D 5) = v31 at d29
    refine dg_sub (E' := [(47, v31), (46, (.bool true))]) ⟨(congrArg some hq5), (dpE hd20 4 Z Z), trivial⟩ (dg_on Z Z Z Z (ow_call Z Z Tryd.call71 (w_spec_l8Order (hG.mono (lz4.trans hl29)) hC29.old d29 hx5) fun v32 w30 hv32 => ?_))
    obtain ⟨hv32, hb8⟩ := hv32
    exact ⟨hb8, hv32⟩
   ·
    intro w31 D hS21 hd21
    have d32 : PV (RSlice RInt) M4 x5 (D 6) w31 := dpA hd21 6 Z
    generalize hq6 : (D 6) = v33 at d32
    exact dg_sub (E' := [(48, v33), (46, (.bool true))]) ⟨(congrArg some hq6), (dpE hd21 4 Z Z), trivial⟩ (dg_on Z Z Z Z (ow_len Z Z d32 Tryd.underlying52 Z ⟨BX.refl _ _, Z⟩))
   ·
    intro w32 D hS22 hd22
    have hl32 := Le.no M4 hS22
    exact dg_sub (E' := [(46, (.bool true)), (1, (.pointer (some p1)))]) ⟨(dpE hd22 4 Z Z), Z, trivial⟩ (dg_on Z Z Z Z (ow_fieldAddr Z Z Tryd.underlying45 Z (Tryd.sizeOf43 _) ⟨BX.refl _ _, ⟨_, Z, (ARep.mono (hl19.trans hl32) (hp1.fld fld_Ruleset_Chains))⟩⟩))
   ·
    intro w33 D hS23 hd23
    have d35 : PA (RSlice (RSlice RRule)) M4 a_s.Chains (D 8) w33 := dpA hd23 8 Z
    obtain ⟨p14, e10, ha7⟩ := d35
    exact dg_sub (E' := [(50, (.pointer (some p14))), (46, (.bool true))]) ⟨(congrArg some e10), (dpE hd23 4 Z Z), trivial⟩ (dg_on Z Z Z Z (ow_load (R := (RSlice (RSlice RRule))) Z Z ha7 (Tryd.sizeOf43 _) (Tryd.isAgg43 _) fun v34 hv34 => ⟨BX.refl _ _, hv34⟩))
   ·
    intro w34 D hS24 hd24
    have d37 : PV (RSlice (RSlice RRule)) M4 a_s.Chains (D 9) w34 := dpA hd24 9 Z
    generalize hq7 : (D 9) = v35 at d37
    exact dg_sub (E' := [(51, v35), (46, (.bool true))]) ⟨(congrArg some hq7), (dpE hd24 4 Z Z), trivial⟩ (dg_on Z Z Z Z (ow_len Z Z d37 Tryd.underlying43 Z ⟨BX.refl _ _, Z⟩))
   ·
    intro w35 D hS25 hd25
    have hC35 := hC19.no hS25
    refine lw_sub (E' := [(46, (.bool true)), (49, (.int .i64 (x5.length : Int))), (52, (.int .i64 (a_s.Chains.length : Int))), (1, (.pointer (some p1)))]) ⟨(dpE hd25 4 Z Z), (dpE hd25 7 Z Z), (dpE hd25 10 Z Z), Z, trivial⟩ (lw_on Z Z Z Z Z Z (ow_eqlI Z Z Z fun bb4 hbb4 => lw_op Z Z Z (ow_pickT Z Z Z (lw_op Z Z Z (ow_assign Z Z (lw_nil (ew_then (cw_ret ?_))))))))
    obtain rfl := Option.some.inj h
    exact ew_ret (res1 Z (.tmp Z)) ⟨_, Z, ((vbool_of hbb4)), hC35.bx⟩
  ·
   subst hc5
   have lz5 := (hl1.trans hl19)
   refine cw_sub (E' := [(1, (.pointer (some p1)))]) ⟨Z, trivial⟩ (cw_drawQ 11 [PA (RSlice (RSlice RRule)) M4 a_s.Chains, PV (RSlice (RSlice RRule)) M4 a_s.Chains, PEq (.int .i64 (a_s.Chains.length : Int)), PEq (.bool false), PEq (.bool false), PEq undef, PEq undef, PEq undef, PEq undef, PEq undef, PEq undef] (by kernel_rfl) Z (by kernel_rfl) ⟨PA.mono _ _ _, PV.mono _ _ _, PEq.mono _, PEq.mono _, PEq.mono _, PEq.mono _, PEq.mono _, PEq.mono _, PEq.mono _, PEq.mono _, PEq.mono _, trivial⟩ ⟨?_, ?_, ?_, ?_, ?_, ?_, ?_, ?_, ?_, ?_, ?_, trivial⟩ ?_)
   ·
    intro w36 D hS26 hd26
    have hl36 := Le.no M4 hS26
    exact dg_sub (E' := [(1, (.pointer (some p1)))]) ⟨Z, trivial⟩ (dg_plain Z (ow_fieldAddr Z Z Tryd.underlying45 Z (Tryd.sizeOf43 _) ⟨BX.refl _ _, ⟨_, Z, (ARep.mono (hl19.trans hl36) (hp1.fld fld_Ruleset_Chains))⟩⟩))
   ·
    intro w37 D hS27 hd27
    have d50 : PA (RSlice (RSlice RRule)) M4 a_s.Chains (D 0) w37 := dpA hd27 0 Z
    obtain ⟨p15, e11, ha8⟩ := d50
    exact dg_sub (E' := [(42, (.pointer (some p15)))]) ⟨(congrArg some e11), trivial⟩ (dg_plain Z (ow_load (R := (RSlice (RSlice RRule))) Z Z ha8 (Tryd.sizeOf43 _) (Tryd.isAgg43 _) fun v36 hv36 => ⟨BX.refl _ _, hv36⟩))
   ·
    intro w38 D hS28 hd28
    have d51 : PV (RSlice (RSlice RRule)) M4 a_s.Chains (D 1) w38 := dpA hd28 1 Z
    generalize hq8 : (D 1) = v37 at d51
    exact dg_sub (E' := [(43, v37)]) ⟨(congrArg some hq8), trivial⟩ (dg_plain Z (ow_len Z Z d51 Tryd.underlying43 Z ⟨BX.refl _ _, Z⟩))
   ·
    intro w39 D hS29 hd29
    have hl39 := Le.no M4 hS29
    have hC39 := hC19.no hS29
    refine dg_sub (E' := [(44, (.int .i64 (a_s.Chains.length : Int)))]) ⟨(dpE hd29 2 Z Z), trivial⟩ (dg_plain Z (ow_call Z Z Tryd.call70 (w_spec_l1In (hG.mono (lz5.trans hl39)) hC39.old hx4) fun v38 w40 hv38 => ?_))
    obtain ⟨hv38, hb9⟩ := hv38
    obtain rfl := vbool_eq hv38
    exact ⟨hb9, Z⟩
   ·
    intro w41 D hS30 hd30
    exact dg_sub (E' := [(45, (.bool false))]) ⟨(dpE hd30 3 Z Z), trivial⟩ (dg_plain Z (ow_move Z Z ⟨BX.refl _ _, Z⟩))
   ·
    intro w42 D hS31 hd31
    exact dg_sub (E' := [(46, (.bool false)), (1, (.pointer (some p1)))]) ⟨(dpE hd31 4 Z Z), Z, trivial⟩ (dg_off Z Z Z Z ⟨BX.refl _ _, Z⟩)
   ·
    intro w43 D hS32 hd32
    exact dg_sub (E' := [(47, undef), (46, (.bool false))]) ⟨(dpE hd32 5 Z Z), (dpE hd32 4 Z Z), trivial⟩ (dg_off Z Z Z Z ⟨BX.refl _ _, Z⟩)
   ·
    intro w44 D hS33 hd33
    exact dg_sub (E' := [(48, undef), (46, (.bool false))]) ⟨(dpE hd33 6 Z Z), (dpE hd33 4 Z Z), trivial⟩ (dg_off Z Z Z Z ⟨BX.refl _ _, Z⟩)
   ·
    intro w45 D hS34 hd34
    exact dg_sub (E' := [(46, (.bool false)), (1, (.pointer (some p1)))]) ⟨(dpE hd34 4 Z Z), Z, trivial⟩ (dg_off Z Z Z Z ⟨BX.refl _ _, Z⟩)
   ·
    intro w46 D hS35 hd35
    exact dg_sub (E' := [(50, undef), (46, (.bool false))]) ⟨(dpE hd35 8 Z Z), (dpE hd35 4 Z Z), trivial⟩ (dg_off Z Z Z Z ⟨BX.refl _ _, Z⟩)
   ·
    intro w47 D hS36 hd36
    exact dg_sub (E' := [(51, undef), (46, (.bool false))]) ⟨(dpE hd36 9 Z Z), (dpE hd36 4 Z Z), trivial⟩ (dg_off Z Z Z Z ⟨BX.refl _ _, Z⟩)
   ·
    intro w48 D hS37 hd37
    have hC48 := hC19.no hS37
    refine lw_sub (E' := [(46, (.bool false)), (49, undef), (52, undef), (1, (.pointer (some p1)))]) ⟨(dpE hd37 4 Z Z), (dpE hd37 7 Z Z), (dpE hd37 10 Z Z), Z, trivial⟩ (lw_off Z Z Z Z Z Z (lw_op Z Z Z (ow_pickF Z Z Z (lw_op Z Z Z (ow_assign Z Z (lw_nil (ew_then (cw_ret ?_))))))))
    obtain rfl := Option.some.inj h
    exact ew_ret (res1 Z (.tmp Z)) ⟨_, Z, ((vbool _)), hC48.bx⟩

theorem w_spec_CallDepth {w : World} {M : Nat → Prop} (hG : ARep (RArr 4 RShape) w M shapes ⟨0, 0, none⟩) (hO : ∀ b, M b → b < w.heap.size) {v0p : Value} {a_s : Ruleset} (h0 : VRep RRuleset w M a_s v0p) {a_chain : Int} {r : Int} (h : F.spec_CallDepth a_s a_chain = some r) :
  Calls Tryd.prog 29 [v0p, (.int .i64 a_chain)].toArray w fun e w' => ∃ v, e = .returned v ∧ VRep RInt w' M r v ∧ BX No w w' := by
 obtain ⟨i3, hi3, hz3, hs3, hy3⟩ := info3
 have hC : Cx No w M w M := Cx.start hO (fun _ e => e.elim)
 refine walk (N := 78) Tryd.func29 Z Tryd.ntmps29 Z (cw_seq (cw_region (lw_op Z Z Z (ow_box (R := RRuleset) Z Z h0 hC fun p1 w1 hp1 hb1 hl1 hC1 => lw_op Z Z Z (ow_assign Z Z (lw_nil (ew_then (cw_seq (cw_seq (cw_region (lw_op Z Z Z (ow_load (R := RRuleset) Z Z hp1 (Tryd.sizeOf45 _) (Tryd.isAgg45 _) fun v1 hv1 => ?_))))))))))))
 replace h := bind_some h
 obtain ⟨x1, hx1, h⟩ := h
 refine lw_op Z Z Z (ow_call Z Z Tryd.call26 (w_spec_RulesetValid (hG.mono hl1) hC1.old hv1 hx1) fun v2 w2 hv2 => ?_)
 obtain ⟨hv2, hb2⟩ := hv2
 have hl2 := Le.no M hb2
 have hC2 := hC1.no hb2
 obtain rfl := vbool_eq hv2
 refine lw_op Z Z Z (ow_not Z Z (lw_op Z Z Z (ow_move Z Z ?_)))
 replace h := cond_some h
 rcases h with ⟨hc1, h⟩ | ⟨hc1, h⟩
 ·
  subst hc1
  refine lw_on Z Z Z Z Z Z (ow_move Z Z (lw_on Z Z Z Z Z Z (ow_fieldAddr Z Z Tryd.underlying45 Z (Tryd.sizeOf43 _) (lw_on Z Z Z Z Z Z (ow_load (R := (RSlice (RSlice RRule))) Z Z (ARep.mono hl2 (hp1.fld fld_Ruleset_Chains)) (Tryd.sizeOf43 _) (Tryd.isAgg43 _) fun v3 hv3 => lw_on Z Z Z Z Z Z (ow_len Z Z hv3 Tryd.underlying43 Z (lw_on Z Z Z Z Z Z (ow_sub Z Z Z ?_))))))))
  replace h := bind_some h
  obtain ⟨x2, hx2, h⟩ := h
  refine lw_on Z Z Z Z Z Z (ow_call Z Z Tryd.call70 (w_spec_l1In (hG.mono (hl1.trans hl2)) hC2.old hx2) fun v4 w3 hv4 => ?_)
  obtain ⟨hv4, hb3⟩ := hv4
  have hl3 := Le.no M hb3
  have hC3 := hC2.no hb3
  obtain rfl := vbool_eq hv4
  refine lw_on Z Z Z Z Z Z (ow_not Z Z (lw_op Z Z Z (ow_pickF Z Z Z (lw_nil (ew_then ?_)))))
  replace h := cond_some h
  rcases h with ⟨hc2, h⟩ | ⟨hc2, h⟩
  ·
   subst hc2
   refine cw_false Z (cw_skip (ew_then (cw_seq (cw_region (lw_op Z Z Z (ow_fieldAddr Z Z Tryd.underlying45 Z (Tryd.sizeOf43 _) (lw_op Z Z Z (ow_load (R := (RSlice (RSlice RRule))) Z Z (ARep.mono (hl2.trans hl3) (hp1.fld fld_Ruleset_Chains)) (Tryd.sizeOf43 _) (Tryd.isAgg43 _) fun v5 hv5 => lw_op Z Z Z (ow_len Z Z hv5 Tryd.underlying43 Z ?_)))))))))
   replace h := bind_some h
   obtain ⟨mk1, hmk1, h⟩ := h
   refine lw_op Z Z Z (ow_make (R := RInt) Z Z Z Tryd.underlying52 hi3 hz3 hs3 hy3 Z Z (vint 0) hmk1 hC3 fun v6 w4 M1 hr1 hb4 hl4 hC4 hM1 hat1 => lw_op Z Z Z (ow_assign Z Z (lw_nil (ew_then (cw_seq (cw_region ?_))))))
   have lz1 := ((hl2.trans hl3).trans hl4)
   refine lw_op Z Z Z (ow_load (R := RRuleset) Z Z (ARep.mono lz1 hp1) (Tryd.sizeOf45 _) (Tryd.isAgg45 _) fun v7 hv7 => ?_)
   replace h := bind_some h
   obtain ⟨x3, hx3, h⟩ := h
   have lz2 := (((hl1.trans hl2).trans hl3).trans hl4)
   refine lw_op Z Z Z (ow_call Z Z Tryd.call71 (w_spec_l8Order (hG.mono lz2) hC4.old hv7 hx3) fun v8 w5 hv8 => ?_)
   obtain ⟨hv8, hb5⟩ := hv8
   have hl5 := Le.no M1 hb5
   have hC5 := hC4.no hb5
   have hr2 := hr1.no hb5
   refine lw_op Z Z Z (ow_assign Z Z (lw_nil (ew_then (cw_seq (cw_seq (cw_region (lw_op Z Z Z (ow_assign Z Z (lw_nil (ew_then ?_))))))))))
   replace h := bind_some h
   obtain ⟨lr1, hlr1, h⟩ := h
   refine cw_for hlr1 (fun s a w' => ∃ (M' : Nat → Prop), Fits 78 [(1, (.int .i64 a_chain)), (2, (.pointer (some p1))), (5, v6), (6, v8), (7, (.int .i64 s.1))] a ∧ Le w5 M1 w' M' ∧ Cx No w M w' M' ∧ OwnRow RInt w.heap.size 3 w' M' s.2 v6) ?_ ?_ ?_
   ·
    intro a ha
    exact ⟨M1, ha.sub ⟨Z, Z, Z, Z, Z, trivial⟩, Le.refl _ _, hC5, hr2⟩
   ·
    rintro ⟨k1, y1⟩ a w6 sr1 ⟨M2, hF1, hl6, hC6, hw1⟩ hb6 hR1
    refine cw_at (E := [(1, (.int .i64 a_chain)), (2, (.pointer (some p1))), (5, v6), (6, v8), (7, (.int .i64 k1))]) hF1 (cw_seq (cw_seq (cw_region (lw_op Z Z Z (ow_move Z Z (lw_op Z Z Z (ow_move Z Z (lw_op Z Z Z (ow_len Z Z (VRep.mono hl6 hv8) Tryd.underlying52 Z (lw_op Z Z Z (ow_lss Z Z Z fun bb1 hbb1 => lw_nil (ew_then ?_))))))))))))
    replace hb6 := cond_some hb6
    rcases hb6 with ⟨hc3, hb6⟩ | ⟨hc3, hb6⟩
    ·
     obtain rfl := hbb1.trans hc3
     refine cw_true Z (cw_skip (ew_then (cw_seq (cw_block (cw_seq (cw_region (lw_op Z Z Z (ow_move Z Z (lw_op Z Z Z (ow_move Z Z ?_))))))))))
     replace hb6 := bind_some hb6
     obtain ⟨x4, hx4, hb6⟩ := hb6
     refine lw_op Z Z Z (ow_indexSlice (R := RInt) Z Z Z (VRep.mono hl6 hv8) Tryd.underlying52 (Tryd.sizeOf3 _) hx4 fun p2 hp2 => lw_op Z Z Z (ow_load (R := RInt) Z Z hp2 (Tryd.sizeOf3 _) (Tryd.isAgg3 _) fun v11 hv11 => ?_))
     obtain rfl := vint_eq hv11
     refine lw_op Z Z Z (ow_assign Z Z (lw_nil (ew_then (cw_seq (cw_region (lw_op Z Z Z (ow_assign Z Z (lw_nil (ew_then ?_)))))))))
     replace hb6 := bind_some hb6
     obtain ⟨lr2, hlr2, hb6⟩ := hb6
     refine cw_for hlr2 (fun s a w' => ∃ (M' : Nat → Prop), Fits 78 [(1, (.int .i64 a_chain)), (2, (.pointer (some p1))), (5, v6), (6, v8), (7, (.int .i64 k1)), (8, (.int .i64 x4)), (9, (.int .i64 s.1))] a ∧ Le w6 M2 w' M' ∧ Cx No w M w' M' ∧ OwnRow RInt w.heap.size 3 w' M' s.2 v6) ?_ ?_ ?_
     ·
      intro a ha
      exact ⟨M2, ha.sub ⟨Z, Z, Z, Z, Z, Z, Z, trivial⟩, Le.refl _ _, hC6, hw1⟩
     ·
      rintro ⟨k2, y2⟩ a w7 sr2 ⟨M3, hF2, hl7, hC7, hw2⟩ hb7 hR2
      refine cw_at (E := [(1, (.int .i64 a_chain)), (2, (.pointer (some p1))), (5, v6), (6, v8), (7, (.int .i64 k1)), (8, (.int .i64 x4)), (9, (.int .i64 k2))]) hF2 (cw_seq (cw_seq (cw_region (lw_op Z Z Z (ow_move Z Z (lw_op Z Z Z (ow_fieldAddr Z Z Tryd.underlying45 Z (Tryd.sizeOf43 _) ?_)))))))
      have lz3 := (((lz1.trans hl5).trans hl6).trans hl7)
      refine lw_op Z Z Z (ow_load (R := (RSlice (RSlice RRule))) Z Z (ARep.mono lz3 (hp1.fld fld_Ruleset_Chains)) (Tryd.sizeOf43 _) (Tryd.isAgg43 _) fun v14 hv14 => lw_op Z Z Z (ow_move Z Z ?_))
      replace hb7 := bind_some hb7
      obtain ⟨x5, hx5, hb7⟩ := hb7
      refine lw_op Z Z Z (ow_indexSlice (R := (RSlice RRule)) Z Z Z hv14 Tryd.underlying43 (Tryd.sizeOf36 _) hx5 fun p3 hp3 => lw_op Z Z Z (ow_load (R := (RSlice RRule)) Z Z hp3 (Tryd.sizeOf36 _) (Tryd.isAgg36 _) fun v15 hv15 => lw_op Z Z Z (ow_len Z Z hv15 Tryd.underlying36 Z (lw_op Z Z Z (ow_lss Z Z Z fun bb2 hbb2 => lw_nil (ew_then ?_))))))
      replace hb7 := cond_some hb7
      rcases hb7 with ⟨hc4, hb7⟩ | ⟨hc4, hb7⟩
      ·
       obtain rfl := hbb2.trans hc4
       refine cw_true Z (cw_skip (ew_then (cw_seq (cw_block (cw_seq (cw_region (lw_op Z Z Z (ow_fieldAddr Z Z Tryd.underlying45 Z (Tryd.sizeOf43 _) (lw_op Z Z Z (ow_load (R := (RSlice (RSlice RRule))) Z Z (ARep.mono lz3 (hp1.fld fld_Ruleset_Chains)) (Tryd.sizeOf43 _) (Tryd.isAgg43 _) fun v16 hv16 => lw_op Z Z Z (ow_move Z Z (lw_op Z Z Z (ow_indexSlice (R := (RSlice RRule)) Z Z Z hv16 Tryd.underlying43 (Tryd.sizeOf36 _) hx5 fun p4 hp4 => lw_op Z Z Z (ow_load (R := (RSlice RRule)) Z Z hp4 (Tryd.sizeOf36 _) (Tryd.isAgg36 _) fun v17 hv17 => lw_op Z Z Z (ow_move Z Z ?_)))))))))))))))
       replace hb7 := bind_some hb7
       obtain ⟨x6, hx6, hb7⟩ := hb7
       refine lw_op Z Z Z (ow_indexSlice (R := RRule) Z Z Z hv17 Tryd.underlying36 (Tryd.sizeOf42 _) hx6 fun p5 hp5 => lw_op Z Z Z (ow_load (R := RRule) Z Z hp5 (Tryd.sizeOf42 _) (Tryd.isAgg42 _) fun v18 hv18 => lw_allocStore (R := RRule) Z Z Z Z Z Z Z Tryd.zeroValue42 Tryd.sizeOf42 Z Z Z (by simp) hv18 hC7 fun p6 w8 hp6 hb8 hl8 hC8 => ?_))
       have hr3 := hw2.no hb8
       refine lw_nil (ew_then (cw_seq (cw_region (lw_op Z Z Z (ow_fieldAddr Z Z Tryd.underlying42 Z (Tryd.sizeOf3 _) (lw_op Z Z Z (ow_load (R := RInt) Z Z (hp6.fld fld_Rule_Action) (Tryd.sizeOf3 _) (Tryd.isAgg3 _) fun v19 hv19 => ?_)))))))
       obtain rfl := vint_eq hv19
       refine lw_op Z Z Z (ow_eqlI Z Z Z fun bb3 hbb3 => lw_nil (ew_then ?_))
       replace hb7 := cond_some hb7
       rcases hb7 with ⟨hc5, hb7⟩ | ⟨hc5, hb7⟩
       ·
        obtain rfl := hbb3.trans hc5
        refine cw_true Z ?_
        replace hb7 := bind_some hb7
        obtain ⟨x7, hx7, hb7⟩ := hb7
        replace hb7 := bind_some hb7
        obtain ⟨x8, hx8, hb7⟩ := hb7
        refine cw_sub (E' := [(1, (.int .i64 a_chain)), (2, (.pointer (some p1))), (5, v6), (6, v8), (7, (.int .i64 k1)), (8, (.int .i64 x4)), (9, (.int .i64 k2)), (10, (.pointer (some p6)))]) ⟨Z, Z, Z, Z, Z, Z, Z, Z, trivial⟩ (cw_drawQ 13 [PEq v6, PEq (.int .i64 x4), PEq v6, PEq (.int .i64 x4), PEq (.pointer (some ⟨blk v6, (x4 : Int).toNat * RInt.size + 0, none⟩)), PEq (.int .i64 x7), PEq v6, PA RInt M3 x6.Chain, PEq (.int .i64 x6.Chain), PEq (.pointer (some ⟨blk v6, (x6.Chain : Int).toNat * RInt.size + 0, none⟩)), PEq (.int .i64 x8), PEq (.int .i64 (W (1 + x8))), PEq (.int .i64 (imax x7 (W (1 + x8))))] (by kernel_rfl) Z (by kernel_rfl) ⟨PEq.mono _, PEq.mono _, PEq.mono _, PEq.mono _, PEq.mono _, PEq.mono _, PEq.mono _, PA.mono _ _ _, PEq.mono _, PEq.mono _, PEq.mono _, PEq.mono _, PEq.mono _, trivial⟩ ⟨?_, ?_, ?_, ?_, ?_, ?_, ?_, ?_, ?_, ?_, ?_, ?_, ?_, trivial⟩ ?_)
        ·
         intro w9 D hS1 hd1
         exact dg_sub (E' := [(5, v6)]) ⟨Z, trivial⟩ (dg_plain Z (ow_move Z Z ⟨BX.refl _ _, Z⟩))
        ·
         intro w10 D hS2 hd2
         exact dg_sub (E' := [(8, (.int .i64 x4))]) ⟨Z, trivial⟩ (dg_plain Z (ow_move Z Z ⟨BX.refl _ _, Z⟩))
        ·
         intro w11 D hS3 hd3
         exact dg_sub (E' := [(5, v6)]) ⟨Z, trivial⟩ (dg_plain Z (ow_move Z Z ⟨BX.refl _ _, Z⟩))
        ·
         intro w12 D hS4 hd4
         exact dg_sub (E' := [(8, (.int .i64 x4))]) ⟨Z, trivial⟩ (dg_plain Z (ow_move Z Z ⟨BX.refl _ _, Z⟩))
        ·
         intro w13 D hS5 hd5
         have hr8 := hr3.no hS5
         exact dg_sub (E' := [(62, v6), (63, (.int .i64 x4))]) ⟨(dpE hd5 2 Z Z), (dpE hd5 3 Z Z), trivial⟩ (dg_plain Z (ow_indexRow (R := RInt) Z Z Z hr8 Tryd.underlying52 (Tryd.sizeOf3 _) hx7 ⟨BX.refl _ _, Z⟩))
        ·
         intro w14 D hS6 hd6
         have hr9 := hr3.no hS6
         refine dg_sub (E' := [(64, (.pointer (some ⟨blk v6, (x4 : Int).toNat * RInt.size + 0, none⟩)))]) ⟨(dpE hd6 4 Z Z), trivial⟩ (dg_plain Z (ow_loadElRow (R := RInt) (S := RInt) Z Z Z hr9 (orow_blk hr9 hx7) hx7 (Fld.whole RInt) (Tryd.sizeOf3 _) (Tryd.isAgg3 _) fun v23 hv23 => ?_))
         obtain rfl := vint_eq hv23
         exact ⟨BX.refl _ _, Z⟩
        ·
         intro w15 D hS7 hd7
         exact dg_sub (E' := [(5, v6)]) ⟨Z, trivial⟩ (dg_plain Z (ow_move Z Z ⟨BX.refl _ _, Z⟩))
        ·
         intro w16 D hS8 hd8
         have hl16 := Le.no M3 hS8
         exact dg_sub (E' := [(10, (.pointer (some p6)))]) ⟨Z, trivial⟩ (dg_plain Z (ow_fieldAddr Z Z Tryd.underlying42 Z (Tryd.sizeOf3 _) ⟨BX.refl _ _, ⟨_, Z, (ARep.mono hl16 (hp6.fld fld_Rule_Chain))⟩⟩))
        ·
         intro w17 D hS9 hd9
         have d4 : PA RInt M3 x6.Chain (D 7) w17 := dpA hd9 7 Z
         obtain ⟨p7, e1, ha1⟩ := d4
         refine dg_sub (E' := [(67, (.pointer (some p7)))]) ⟨(congrArg some e1), trivial⟩ (dg_plain Z (ow_load (R := RInt) Z Z ha1 (Tryd.sizeOf3 _) (Tryd.isAgg3 _) fun v24 hv24 => ?_))
         obtain rfl := vint_eq hv24
         exact ⟨BX.refl _ _, Z⟩
        ·
         intro w18 D hS10 hd10
         have hr13 := hr3.no hS10
         exact dg_sub (E' := [(66, v6), (68, (.int .i64 x6.Chain))]) ⟨(dpE hd10 6 Z Z), (dpE hd10 8 Z Z), trivial⟩ (dg_plain Z (ow_indexRow (R := RInt) Z Z Z hr13 Tryd.underlying52 (Tryd.sizeOf3 _) hx8 ⟨BX.refl _ _, Z⟩))
        ·
         intro w19 D hS11 hd11
         have hr14 := hr3.no hS11
         refine dg_sub (E' := [(69, (.pointer (some ⟨blk v6, (x6.Chain : Int).toNat * RInt.size + 0, none⟩)))]) ⟨(dpE hd11 9 Z Z), trivial⟩ (dg_plain Z (ow_loadElRow (R := RInt) (S := RInt) Z Z Z hr14 (orow_blk hr14 hx8) hx8 (Fld.whole RInt) (Tryd.sizeOf3 _) (Tryd.isAgg3 _) fun v25 hv25 => ?_))
         obtain rfl := vint_eq hv25
         exact ⟨BX.refl _ _, Z⟩
        ·
         intro w20 D hS12 hd12
         exact dg_sub (E' := [(70, (.int .i64 x8))]) ⟨(dpE hd12 10 Z Z), trivial⟩ (dg_plain Z (ow_add Z Z Z ⟨BX.refl _ _, Z⟩))
        ·
         intro w21 D hS13 hd13
         exact dg_sub (E' := [(65, (.int .i64 x7)), (71, (.int .i64 (W (1 + x8))))]) ⟨(dpE hd13 5 Z Z), (dpE hd13 11 Z Z), trivial⟩ (dg_plain Z (ow_max Z Z Z ⟨BX.refl _ _, Z⟩))
        ·
         intro w22 D hS14 hd14
         have hl22 := Le.no M3 hS14
         have hC22 := hC8.no hS14
         have hr17 := hr3.no hS14
         refine lw_sub (E' := [(60, v6), (61, (.int .i64 x4)), (72, (.int .i64 (imax x7 (W (1 + x8))))), (1, (.int .i64 a_chain)), (2, (.pointer (some p1))), (5, v6), (6, v8), (7, (.int .i64 k1)), (8, (.int .i64 x4)), (9, (.int .i64 k2)), (10, (.pointer (some p6)))]) ⟨(dpE hd14 0 Z Z), (dpE hd14 1 Z Z), (dpE hd14 12 Z Z), Z, Z, Z, Z, Z, Z, Z, Z, trivial⟩ (lw_op Z Z Z (ow_indexRow (R := RInt) Z Z Z hr17 Tryd.underlying52 (Tryd.sizeOf3 _) hx7 (lw_op0 Z Z (ow_storeElRow (X := No) (R := RInt) (S := RInt) Z Z Z Z hr17 (orow_blk hr17 hx7) hx7 (FldSet.whole RInt) (Tryd.sizeOf3 _) (vint _) (Nat.le_refl _) hC22 fun w23 ho1 hb9 hl23 hC23 => lw_nil (ew_blockN (ew_then (cw_region (lw_op Z Z Z (ow_move Z Z (lw_op Z Z Z (ow_add Z Z Z (lw_op Z Z Z (ow_assign Z Z (lw_nil ?_))))))))))))))
         have lz7 := (((hl7.trans hl8).trans hl22).trans hl23)
         exact ew_nxt ((W (k2 + 1)), (List.set y2 (x4 : Int).toNat (imax x7 (W (1 + x8))))) hb7 fun a ha => ⟨M3, (ha.sub ⟨Z, Z, Z, Z, Z, Z, Z, trivial⟩), lz7, hC23, ho1⟩
       ·
        obtain rfl := hbb3.trans hc5
        exact cw_false Z (cw_skip (ew_blockN (ew_then (cw_region (lw_op Z Z Z (ow_move Z Z (lw_op Z Z Z (ow_add Z Z Z (lw_op Z Z Z (ow_assign Z Z (lw_nil (ew_nxt ((W (k2 + 1)), y2) hb7 fun a ha => ⟨M3, (ha.sub ⟨Z, Z, Z, Z, Z, Z, Z, trivial⟩), (hl7.trans hl8), hC8, hr3⟩))))))))))))
      ·
       obtain rfl := hbb2.trans hc4
       exact cw_false Z (cw_exit (ew_thenX (ew_thenX (ew_blockX (ew_brk (k2, y2) hb7 fun a ha => ⟨M3, (ha.sub ⟨Z, Z, Z, Z, Z, Z, Z, trivial⟩), hl7, hC7, hw2⟩)))))
     ·
      rintro ⟨k3, y3⟩ a w24 hlr3 ⟨M4, hF3, hl24, hC24, hw3⟩
      subst hlr3
      exact ew_at (E := [(1, (.int .i64 a_chain)), (2, (.pointer (some p1))), (5, v6), (6, v8), (7, (.int .i64 k1)), (8, (.int .i64 x4)), (9, (.int .i64 k3))]) hF3 (ew_blockN (ew_then (cw_region (lw_op Z Z Z (ow_move Z Z (lw_op Z Z Z (ow_add Z Z Z (lw_op Z Z Z (ow_assign Z Z (lw_nil (ew_nxt ((W (k1 + 1)), y3) hb6 fun a ha => ⟨M4, (ha.sub ⟨Z, Z, Z, Z, Z, trivial⟩), (hl6.trans hl24), hC24, hw3⟩)))))))))))
    ·
     obtain rfl := hbb1.trans hc3
     exact cw_false Z (cw_exit (ew_thenX (ew_thenX (ew_blockX (ew_brk (k1, y1) hb6 fun a ha => ⟨M2, (ha.sub ⟨Z, Z, Z, Z, Z, trivial⟩), hl6, hC6, hw1⟩)))))
   ·
    rintro ⟨k4, y4⟩ a w25 hlr4 ⟨M5, hF4, hl25, hC25, hw4⟩
    subst hlr4
    refine ew_at (E := [(1, (.int .i64 a_chain)), (2, (.pointer (some p1))), (5, v6), (6, v8), (7, (.int .i64 k4))]) hF4 (ew_then (cw_seq (cw_region (lw_op Z Z Z (ow_move Z Z (lw_op Z Z Z (ow_move Z Z ?_)))))))
    replace h := bind_some h
    obtain ⟨x9, hx9, h⟩ := h
    refine lw_op Z Z Z (ow_indexRow (R := RInt) Z Z Z hw4 Tryd.underlying52 (Tryd.sizeOf3 _) hx9 (lw_op Z Z Z (ow_loadElRow (R := RInt) (S := RInt) Z Z Z hw4 (orow_blk hw4 hx9) hx9 (Fld.whole RInt) (Tryd.sizeOf3 _) (Tryd.isAgg3 _) fun v30 hv30 => ?_)))
    obtain rfl := vint_eq hv30
    refine lw_op Z Z Z (ow_assign Z Z (lw_nil (ew_then (cw_ret ?_))))
    obtain rfl := Option.some.inj h
    exact ew_ret (res1 Z (.tmp Z)) ⟨_, Z, ((vint _)), hC25.bx⟩
  ·
   subst hc2
   refine cw_true Z (cw_seq (cw_region (lw_op Z Z Z (ow_assign Z Z (lw_nil (ew_then (cw_ret (ew_thenR ?_))))))))
   obtain rfl := Option.some.inj h
   exact ew_ret (res1 Z (.tmp Z)) ⟨_, Z, ((vint _)), hC3.bx⟩
 ·
  subst hc1
  refine lw_off Z Z Z Z Z Z (lw_off Z Z Z Z Z Z (lw_off Z Z Z Z Z Z (lw_off Z Z Z Z Z Z (lw_off Z Z Z Z Z Z (lw_off Z Z Z Z Z Z (lw_off Z Z Z Z Z Z (lw_op Z Z Z (ow_pickT Z Z Z (lw_nil (ew_then (cw_true Z (cw_seq (cw_region (lw_op Z Z Z (ow_assign Z Z (lw_nil (ew_then (cw_ret (ew_thenR ?_)))))))))))))))))))
  obtain rfl := Option.some.inj h
  exact ew_ret (res1 Z (.tmp Z)) ⟨_, Z, ((vint _)), hC2.bx⟩

theorem w_impl_CallsOf {w : World} {M : Nat → Prop} (hG : ARep (RArr 4 RShape) w M shapes ⟨0, 0, none⟩) (hO : ∀ b, M b → b < w.heap.size) {v0p : Value} {a_s : Ruleset} (h0 : VRep RRuleset w M a_s v0p) {a_chain : Int} {r : (List Int)} (h : F.impl_CallsOf a_s a_chain = some r) :
  Calls Tryd.prog 30 [v0p, (.int .i64 a_chain)].toArray w fun e w' => ∃ v, e = .returned v ∧ VRep (RSlice RInt) w' M r v ∧ BX No w w' := by
 have hC : Cx No w M w M := Cx.start hO (fun _ e => e.elim)
 refine walk (N := 25) Tryd.func30 Z Tryd.ntmps30 Z (cw_seq (cw_region (lw_op Z Z Z (ow_box (R := RRuleset) Z Z h0 hC fun p1 w1 hp1 hb1 hl1 hC1 => lw_op Z Z Z (ow_assign Z Z (lw_nil (ew_then (cw_seq (cw_seq (cw_region (lw_op Z Z Z (ow_load (R := RRuleset) Z Z hp1 (Tryd.sizeOf45 _) (Tryd.isAgg45 _) fun v1 hv1 => ?_))))))))))))
 replace h := bind_some h
 obtain ⟨x1, hx1, h⟩ := h
 refine lw_op Z Z Z (ow_call Z Z Tryd.call25 (w_impl_RulesetValid (hG.mono hl1) hC1.old hv1 hx1) fun v2 w2 hv2 => ?_)
 obtain ⟨hv2, hb2⟩ := hv2
 have hl2 := Le.no M hb2
 have hC2 := hC1.no hb2
 obtain rfl := vbool_eq hv2
 refine lw_op Z Z Z (ow_not Z Z (lw_op Z Z Z (ow_move Z Z ?_)))
 replace h := cond_some h
 rcases h with ⟨hc1, h⟩ | ⟨hc1, h⟩
 ·
  subst hc1
  refine lw_on Z Z Z Z Z Z (ow_move Z Z (lw_on Z Z Z Z Z Z (ow_lss Z Z Z fun bb1 hbb1 => lw_op Z Z Z (ow_pickF Z Z Z (lw_op Z Z Z (ow_move Z Z ?_))))))
  replace h := cond_some h
  rcases h with ⟨hc2, h⟩ | ⟨hc2, h⟩
  ·
   obtain rfl := hbb1.trans hc2
   refine lw_off Z Z Z Z Z Z (lw_off Z Z Z Z Z Z (lw_off Z Z Z Z Z Z (lw_off Z Z Z Z Z Z (lw_off Z Z Z Z Z Z (lw_op Z Z Z (ow_pickT Z Z Z (lw_nil (ew_then (cw_true Z (cw_seq (cw_region (lw_op Z Z Z (ow_assign Z Z (lw_nil (ew_then (cw_ret (ew_thenR ?_)))))))))))))))))
   obtain rfl := Option.some.inj h
   exact ew_ret (res1 Z (.tmp Z)) ⟨_, Z, (VRep.mono hC2.back (vslice_nil (R := RInt) (w := w2) (M := M))), hC2.bx⟩
  ·
   obtain rfl := hbb1.trans hc2
   refine lw_on Z Z Z Z Z Z (ow_move Z Z (lw_on Z Z Z Z Z Z (ow_fieldAddr Z Z Tryd.underlying45 Z (Tryd.sizeOf43 _) (lw_on Z Z Z Z Z Z (ow_load (R := (RSlice (RSlice RRule))) Z Z (ARep.mono hl2 (hp1.fld fld_Ruleset_Chains)) (Tryd.sizeOf43 _) (Tryd.isAgg43 _) fun v3 hv3 => lw_on Z Z Z Z Z Z (ow_len Z Z hv3 Tryd.underlying43 Z (lw_on Z Z Z Z Z Z (ow_geq Z Z Z fun bb2 hbb2 => lw_op Z Z Z (ow_pickF Z Z Z (lw_nil (ew_then ?_)))))))))))
   replace h := cond_some h
   rcases h with ⟨hc3, h⟩ | ⟨hc3, h⟩
   ·
    obtain rfl := hbb2.trans hc3
    refine cw_true Z (cw_seq (cw_region (lw_op Z Z Z (ow_assign Z Z (lw_nil (ew_then (cw_ret (ew_thenR ?_))))))))
    obtain rfl := Option.some.inj h
    exact ew_ret (res1 Z (.tmp Z)) ⟨_, Z, (VRep.mono hC2.back (vslice_nil (R := RInt) (w := w2) (M := M))), hC2.bx⟩
   ·
    obtain rfl := hbb2.trans hc3
    refine cw_false Z (cw_skip (ew_then (cw_seq (cw_region (lw_op Z Z Z (ow_fieldAddr Z Z Tryd.underlying45 Z (Tryd.sizeOf43 _) (lw_op Z Z Z (ow_load (R := (RSlice (RSlice RRule))) Z Z (ARep.mono hl2 (hp1.fld fld_Ruleset_Chains)) (Tryd.sizeOf43 _) (Tryd.isAgg43 _) fun v4 hv4 => lw_op Z Z Z (ow_move Z Z ?_)))))))))
    replace h := bind_some h
    obtain ⟨x2, hx2, h⟩ := h
    refine lw_op Z Z Z (ow_indexSlice (R := (RSlice RRule)) Z Z Z hv4 Tryd.underlying43 (Tryd.sizeOf36 _) hx2 fun p2 hp2 => lw_op Z Z Z (ow_load (R := (RSlice RRule)) Z Z hp2 (Tryd.sizeOf36 _) (Tryd.isAgg36 _) fun v5 hv5 => ?_))
    replace h := bind_some h
    obtain ⟨x3, hx3, h⟩ := h
    refine lw_op Z Z Z (ow_call Z Z Tryd.call67 (w_impl_callsIn (hG.mono (hl1.trans hl2)) hC2.old hv5 hx3) fun v6 w3 hv6 => ?_)
    obtain ⟨hv6, hb3⟩ := hv6
    have hC3 := hC2.no hb3
    refine lw_op Z Z Z (ow_assign Z Z (lw_nil (ew_then (cw_ret ?_))))
    obtain rfl := Option.some.inj h
    exact ew_ret (res1 Z (.tmp Z)) ⟨_, Z, (VRep.mono hC3.back hv6), hC3.bx⟩
 ·
  subst hc1
  refine lw_off Z Z Z Z Z Z (lw_off Z Z Z Z Z Z (lw_op Z Z Z (ow_pickT Z Z Z (lw_op Z Z Z (ow_move Z Z (lw_off Z Z Z Z Z Z (lw_off Z Z Z Z Z Z (lw_off Z Z Z Z Z Z (lw_off Z Z Z Z Z Z (lw_off Z Z Z Z Z Z (lw_op Z Z Z (ow_pickT Z Z Z (lw_nil (ew_then (cw_true Z (cw_seq (cw_region (lw_op Z Z Z (ow_assign Z Z (lw_nil (ew_then (cw_ret (ew_thenR ?_)))))))))))))))))))))))
  obtain rfl := Option.some.inj h
  exact ew_ret (res1 Z (.tmp Z)) ⟨_, Z, (VRep.mono hC2.back (vslice_nil (R := RInt) (w := w2) (M := M))), hC2.bx⟩

theorem w_laws_FnCallDepth {w : World} {M : Nat → Prop} (hG : ARep (RArr 4 RShape) w M shapes ⟨0, 0, none⟩) (hO : ∀ b, M b → b < w.heap.size) {v0p : Value} {a_code : List Int} (h0 : VRep (RSlice RU8) w M a_code v0p) {r : Bool} (h : F.laws_FnCallDepth a_code = some r) :
  Calls Tryd.prog 6 [v0p].toArray w fun e w' => ∃ v, e = .returned v ∧ VRep RBool w' M r v ∧ BX No w w' := by
 have hC : Cx No w M w M := Cx.start hO (fun _ e => e.elim)
 refine walk (N := 60) Tryd.func6 Z Tryd.ntmps6 Z (cw_seq (cw_region (lw_op Z Z Z (ow_assign Z Z (lw_nil (ew_then (cw_seq (cw_seq (cw_region (lw_op Z Z Z (ow_move Z Z (lw_op Z Z Z (ow_len Z Z h0 Tryd.underlying22 Z (lw_op Z Z Z (ow_gtr Z Z Z fun bb1 hbb1 => lw_nil (ew_then ?_))))))))))))))))
 replace h := cond_some h
 rcases h with ⟨hc1, h⟩ | ⟨hc1, h⟩
 ·
  obtain rfl := hbb1.trans hc1
  refine cw_true Z (cw_seq (cw_region (lw_op Z Z Z (ow_assign Z Z (lw_nil (ew_then (cw_ret (ew_thenR ?_))))))))
  obtain rfl := Option.some.inj h
  exact ew_ret (res1 Z (.tmp Z)) ⟨_, Z, ((vbool _)), hC.bx⟩
 ·
  obtain rfl := hbb1.trans hc1
  refine cw_false Z (cw_skip (ew_then (cw_seq (cw_region (lw_op Z Z Z (ow_move Z Z ?_))))))
  replace h := bind_some h
  obtain ⟨x1, hx1, h⟩ := h
  refine lw_op Z Z Z (ow_call Z Z Tryd.call27 (w_spec_DrawCallDepth hG hC.old h0 hx1) fun v1 w1 hv1 => ?_)
  obtain ⟨⟨v2, v3, rfl, hv2, hv3⟩, hb1⟩ := hv1
  have hl1 := Le.no M hb1
  have hC1 := hC.no hb1
  obtain rfl := vint_eq hv3
  refine lw_op Z Z Z (ow_move Z Z (lw_op Z Z Z (ow_extract Z Z Z (lw_op Z Z Z (ow_extract Z Z Z (lw_allocStore (R := RRuleset) Z Z Z Z Z Z Z Tryd.zeroValue45 Tryd.sizeOf45 Z Z Z (by simp) hv2 hC1 fun p1 w2 hp1 hb2 hl2 hC2 => lw_op Z Z Z (ow_assign Z Z (lw_nil (ew_then (cw_seq (cw_region (lw_op Z Z Z (ow_load (R := RRuleset) Z Z hp1 (Tryd.sizeOf45 _) (Tryd.isAgg45 _) fun v4 hv4 => lw_op Z Z Z (ow_move Z Z ?_))))))))))))))
  replace h := bind_some h
  obtain ⟨x2, hx2, h⟩ := h
  refine lw_op Z Z Z (ow_call Z Z Tryd.call28 (w_impl_CallDepth (hG.mono (hl1.trans hl2)) hC2.old hv4 hx2) fun v5 w3 hv5 => ?_)
  obtain ⟨hv5, hb3⟩ := hv5
  have hl3 := Le.no M hb3
  have hC3 := hC2.no hb3
  obtain rfl := vint_eq hv5
  refine lw_op Z Z Z (ow_assign Z Z (lw_nil (ew_then (cw_seq (cw_seq (cw_region (lw_op Z Z Z (ow_move Z Z (lw_op Z Z Z (ow_load (R := RRuleset) Z Z (ARep.mono hl3 hp1) (Tryd.sizeOf45 _) (Tryd.isAgg45 _) fun v6 hv6 => lw_op Z Z Z (ow_move Z Z ?_)))))))))))
  replace h := bind_some h
  obtain ⟨x3, hx3, h⟩ := h
  have lz1 := ((hl1.trans hl2).trans hl3)
  refine lw_op Z Z Z (ow_call Z Z Tryd.call29 (w_spec_CallDepth (hG.mono lz1) hC3.old hv6 hx3) fun v7 w4 hv7 => ?_)
  obtain ⟨hv7, hb4⟩ := hv7
  have hl4 := Le.no M hb4
  have hC4 := hC3.no hb4
  obtain rfl := vint_eq hv7
  refine lw_op Z Z Z (ow_neqI Z Z Z fun bb2 hbb2 => lw_nil (ew_then ?_))
  replace h := cond_some h
  rcases h with ⟨hc2, h⟩ | ⟨hc2, h⟩
  ·
   obtain rfl := hbb2.trans hc2
   refine cw_true Z (cw_seq (cw_region (lw_op Z Z Z (ow_assign Z Z (lw_nil (ew_then (cw_ret (ew_thenR ?_))))))))
   obtain rfl := Option.some.inj h
   exact ew_ret (res1 Z (.tmp Z)) ⟨_, Z, ((vbool _)), hC4.bx⟩
  ·
   obtain rfl := hbb2.trans hc2
   refine cw_false Z (cw_skip (ew_then (cw_seq (cw_seq (cw_region (lw_op Z Z Z (ow_move Z Z (lw_op Z Z Z (ow_lss Z Z Z fun bb3 hbb3 => lw_nil (ew_then ?_))))))))))
   replace h := cond_some h
   rcases h with ⟨hc3, h⟩ | ⟨hc3, h⟩
   ·
    obtain rfl := hbb3.trans hc3
    refine cw_true Z (cw_seq (cw_region (lw_op Z Z Z (ow_move Z Z (lw_op Z Z Z (ow_eqlI Z Z Z fun bb4 hbb4 => lw_op Z Z Z (ow_move Z Z ?_)))))))
    replace h := cond_some h
    rcases h with ⟨hc4, h⟩ | ⟨hc4, h⟩
    ·
     obtain rfl := hbb4.trans hc4
     replace h := bind_some h
     obtain ⟨x4, hx4, h⟩ := h
     refine lw_on Z Z Z Z Z Z (ow_call Z Z Tryd.call18 (w_laws_alive (hG.mono (lz1.trans hl4)) hC4.old hx4) fun v8 w5 hv8 => ?_)
     obtain ⟨hv8, hb5⟩ := hv8
     have hC5 := hC4.no hb5
     obtain rfl := vbool_eq hv8
     refine lw_op Z Z Z (ow_pickT Z Z Z (lw_op Z Z Z (ow_assign Z Z (lw_nil (ew_then (cw_ret (ew_thenR ?_)))))))
     obtain rfl := Option.some.inj h
     exact ew_ret (res1 Z (.tmp Z)) ⟨_, Z, ((vbool _)), hC5.bx⟩
    ·
     obtain rfl := hbb4.trans hc4
     refine lw_off Z Z Z Z Z Z (lw_op Z Z Z (ow_pickF Z Z Z (lw_op Z Z Z (ow_assign Z Z (lw_nil (ew_then (cw_ret (ew_thenR ?_))))))))
     obtain rfl := Option.some.inj h
     exact ew_ret (res1 Z (.tmp Z)) ⟨_, Z, ((vbool _)), hC4.bx⟩
   ·
    obtain rfl := hbb3.trans hc3
    refine cw_false Z (cw_skip (ew_then (cw_seq (cw_region (lw_op Z Z Z (ow_assign Z Z (lw_nil (ew_then (cw_seq (cw_region (lw_op Z Z Z (ow_load (R := RRuleset) Z Z (ARep.mono (hl3.trans hl4) hp1) (Tryd.sizeOf45 _) (Tryd.isAgg45 _) fun v9 hv9 => lw_op Z Z Z (ow_move Z Z ?_)))))))))))))
    replace h := bind_some h
    obtain ⟨x5, hx5, h⟩ := h
    refine lw_op Z Z Z (ow_call Z Z Tryd.call30 (w_impl_CallsOf (hG.mono (lz1.trans hl4)) hC4.old hv9 hx5) fun v10 w6 hv10 => ?_)
    obtain ⟨hv10, hb6⟩ := hv10
    have hl6 := Le.no M hb6
    have hC6 := hC4.no hb6
    refine lw_op Z Z Z (ow_assign Z Z (lw_nil (ew_then (cw_seq (cw_seq (cw_region (lw_op Z Z Z (ow_assign Z Z (lw_nil (ew_then ?_))))))))))
    replace h := bind_some h
    obtain ⟨lr1, hlr1, h⟩ := h
    refine cw_for hlr1 (fun s a w' => ∃ (M' : Nat → Prop), Fits 60 [(3, (.pointer (some p1))), (5, (.int .i64 x2)), (6, (.int .i64 s.1)), (7, v10), (8, (.int .i64 s.2))] a ∧ Le w6 M w' M' ∧ Cx No w M w' M') ?_ ?_ ?_
    ·
     intro a ha
     exact ⟨M, ha.sub ⟨Z, Z, Z, Z, Z, trivial⟩, Le.refl _ _, hC6⟩
    ·
     rintro ⟨k1, k2⟩ a w7 sr1 ⟨M1, hF1, hl7, hC7⟩ hb7 hR1
     refine cw_at (E := [(3, (.pointer (some p1))), (5, (.int .i64 x2)), (6, (.int .i64 k1)), (7, v10), (8, (.int .i64 k2))]) hF1 (cw_seq (cw_seq (cw_region (lw_op Z Z Z (ow_move Z Z (lw_op Z Z Z (ow_move Z Z (lw_op Z Z Z (ow_len Z Z (VRep.mono hl7 hv10) Tryd.underlying52 Z (lw_op Z Z Z (ow_lss Z Z Z fun bb5 hbb5 => lw_nil (ew_then ?_))))))))))))
     replace hb7 := cond_some hb7
     rcases hb7 with ⟨hc5, hb7⟩ | ⟨hc5, hb7⟩
     ·
      obtain rfl := hbb5.trans hc5
      refine cw_true Z (cw_skip (ew_then (cw_seq (cw_block ?_))))
      replace hb7 := bind_some hb7
      obtain ⟨x6, hx6, hb7⟩ := hb7
      replace hb7 := bind_some hb7
      obtain ⟨x7, hx7, hb7⟩ := hb7
      have lz2 := (((lz1.trans hl4).trans hl6).trans hl7)
      have lz3 := (((hl3.trans hl4).trans hl6).trans hl7)
      refine cw_sub (E' := [(3, (.pointer (some p1))), (5, (.int .i64 x2)), (6, (.int .i64 k1)), (7, v10), (8, (.int .i64 k2))]) ⟨Z, Z, Z, Z, Z, trivial⟩ (cw_drawQ 8 [PEq (.int .i64 k1), PV RRuleset M1 x1.1, PV (RSlice RInt) M1 x5, PEq (.int .i64 k2), PA RInt M1 x6, PEq (.int .i64 x6), PEq (.int .i64 x7), PEq (.int .i64 (W (1 + x7)))] (by kernel_rfl) Z (by kernel_rfl) ⟨PEq.mono _, PV.mono _ _ _, PV.mono _ _ _, PEq.mono _, PA.mono _ _ _, PEq.mono _, PEq.mono _, PEq.mono _, trivial⟩ ⟨?_, ?_, ?_, ?_, ?_, ?_, ?_, ?_, trivial⟩ ?_)
      ·
       intro w9 D hS1 hd1
       exact dg_sub (E' := [(6, (.int .i64 k1))]) ⟨Z, trivial⟩ (dg_plain Z (ow_move Z Z ⟨BX.refl _ _, Z⟩))
      ·
       intro w10 D hS2 hd2
       have hl10 := Le.no M1 hS2
       exact dg_sub (E' := [(3, (.pointer (some p1)))]) ⟨Z, trivial⟩ (dg_plain Z (ow_load (R := RRuleset) Z Z (ARep.mono (lz3.trans hl10) hp1) (Tryd.sizeOf45 _) (Tryd.isAgg45 _) fun v16 hv16 => ⟨BX.refl _ _, hv16⟩))
      ·
       intro w11 D hS3 hd3
       have hl11 := Le.no M1 hS3
       exact dg_sub (E' := [(7, v10)]) ⟨Z, trivial⟩ (dg_plain Z (ow_move Z Z ⟨BX.refl _ _, (VRep.mono (hl7.trans hl11) hv10)⟩))
      ·
       intro w12 D hS4 hd4
       exact dg_sub (E' := [(8, (.int .i64 k2))]) ⟨Z, trivial⟩ (dg_plain Z (ow_move Z Z ⟨BX.refl _ _, Z⟩))
      ·
       intro w13 D hS5 hd5
       have d1 : PV (RSlice RInt) M1 x5 (D 2) w13 := dpA hd5 2 Z
       generalize hq1 : (D 2) = v17 at d1
       exact dg_sub (E' := [(43, v17), (44, (.int .i64 k2))]) ⟨(congrArg some hq1), (dpE hd5 3 Z Z), trivial⟩ (dg_plain Z (ow_indexSlice (R := RInt) Z Z Z d1 Tryd.underlying52 (Tryd.sizeOf3 _) hx6 fun p3 hp3 => ⟨BX.refl _ _, ⟨_, Z, hp3⟩⟩))
      ·
       intro w14 D hS6 hd6
       have d3 : PA RInt M1 x6 (D 4) w14 := dpA hd6 4 Z
       obtain ⟨p4, e1, ha1⟩ := d3
       refine dg_sub (E' := [(45, (.pointer (some p4)))]) ⟨(congrArg some e1), trivial⟩ (dg_plain Z (ow_load (R := RInt) Z Z ha1 (Tryd.sizeOf3 _) (Tryd.isAgg3 _) fun v18 hv18 => ?_))
       obtain rfl := vint_eq hv18
       exact ⟨BX.refl _ _, Z⟩
      ·
       intro w15 D hS7 hd7
       have hl15 := Le.no M1 hS7
       have hC15 := hC7.no hS7
       have d4 : PV RRuleset M1 x1.1 (D 1) w15 := dpA hd7 1 Z
       generalize hq2 : (D 1) = v19 at d4
       refine dg_sub (E' := [(42, v19), (46, (.int .i64 x6))]) ⟨(congrArg some hq2), (dpE hd7 5 Z Z), trivial⟩ (dg_plain Z (ow_call Z Z Tryd.call28 (w_impl_CallDepth (hG.mono (lz2.trans hl15)) hC15.old d4 hx7) fun v20 w16 hv20 => ?_))
       obtain ⟨hv20, hb9⟩ := hv20
       obtain rfl := vint_eq hv20
       exact ⟨hb9, Z⟩
      ·
       intro w17 D hS8 hd8
       exact dg_sub (E' := [(47, (.int .i64 x7))]) ⟨(dpE hd8 6 Z Z), trivial⟩ (dg_plain Z (ow_add Z Z Z ⟨BX.refl _ _, Z⟩))
      ·
       intro w18 D hS9 hd9
       have hl18 := Le.no M1 hS9
       have hC18 := hC7.no hS9
       exact lw_sub (E' := [(41, (.int .i64 k1)), (48, (.int .i64 (W (1 + x7)))), (3, (.pointer (some p1))), (5, (.int .i64 x2)), (6, (.int .i64 k1)), (7, v10), (8, (.int .i64 k2))]) ⟨(dpE hd9 0 Z Z), (dpE hd9 7 Z Z), Z, Z, Z, Z, Z, trivial⟩ (lw_op Z Z Z (ow_max Z Z Z (lw_op Z Z Z (ow_assign Z Z (lw_nil (ew_blockN (ew_then (cw_region (lw_op Z Z Z (ow_move Z Z (lw_op Z Z Z (ow_add Z Z Z (lw_op Z Z Z (ow_assign Z Z (lw_nil (ew_nxt ((imax k1 (W (1 + x7))), (W (k2 + 1))) hb7 fun a ha => ⟨M1, (ha.sub ⟨Z, Z, Z, Z, Z, trivial⟩), (hl7.trans hl18), hC18⟩))))))))))))))))
     ·
      obtain rfl := hbb5.trans hc5
      exact cw_false Z (cw_exit (ew_thenX (ew_thenX (ew_blockX (ew_brk (k1, k2) hb7 fun a ha => ⟨M1, (ha.sub ⟨Z, Z, Z, Z, Z, trivial⟩), hl7, hC7⟩)))))
    ·
     rintro ⟨k3, k4⟩ a w19 hlr2 ⟨M2, hF2, hl19, hC19⟩
     subst hlr2
     refine ew_at (E := [(3, (.pointer (some p1))), (5, (.int .i64 x2)), (6, (.int .i64 k3)), (7, v10), (8, (.int .i64 k4))]) hF2 (ew_then (cw_seq (cw_region (lw_op Z Z Z (ow_move Z Z (lw_op Z Z Z (ow_move Z Z (lw_op Z Z Z (ow_eqlI Z Z Z fun bb6 hbb6 => lw_op Z Z Z (ow_move Z Z ?_))))))))))
     replace h := cond_some h
     rcases h with ⟨hc6, h⟩ | ⟨hc6, h⟩
     ·
      obtain rfl := hbb6.trans hc6
      refine lw_on Z Z Z Z Z Z (ow_move Z Z (lw_on Z Z Z Z Z Z (ow_fieldAddr Z Z Tryd.underlying45 Z (Tryd.sizeOf43 _) ?_)))
      have lz4 := (((hl3.trans hl4).trans hl6).trans hl19)
      refine lw_on Z Z Z Z Z Z (ow_load (R := (RSlice (RSlice RRule))) Z Z (ARep.mono lz4 (hp1.fld fld_Ruleset_Chains)) (Tryd.sizeOf43 _) (Tryd.isAgg43 _) fun v23 hv23 => lw_on Z Z Z Z Z Z (ow_len Z Z hv23 Tryd.underlying43 Z (lw_on Z Z Z Z Z Z (ow_lss Z Z Z fun bb7 hbb7 => lw_op Z Z Z (ow_pickT Z Z Z (lw_op Z Z Z (ow_assign Z Z (lw_nil (ew_then (cw_ret ?_))))))))))
      obtain rfl := Option.some.inj h
      exact ew_ret (res1 Z (.tmp Z)) ⟨_, Z, ((vbool_of hbb7)), hC19.bx⟩
     ·
      obtain rfl := hbb6.trans hc6
      refine lw_off Z Z Z Z Z Z (lw_off Z Z Z Z Z Z (lw_off Z Z Z Z Z Z (lw_off Z Z Z Z Z Z (lw_off Z Z Z Z Z Z (lw_op Z Z Z (ow_pickF Z Z Z (lw_op Z Z Z (ow_assign Z Z (lw_nil (ew_then (cw_ret ?_)))))))))))
      obtain rfl := Option.some.inj h
      exact ew_ret (res1 Z (.tmp Z)) ⟨_, Z, ((vbool _)), hC19.bx⟩


end Go.PF
