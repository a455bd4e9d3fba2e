/- The walks; no condition. -/
import Derived.Test.YtbnndochnkkllaaDoorProg
import Derived.Test.YtbnndochnkkllaaDoorWk0
import Derived.Test.YtbnndochnkkllaaDoorPFMark
import Derived.Test.YtbnndochnkkllaaDoorPFWild
set_option maxRecDepth 100000
set_option maxHeartbeats 4000000
namespace Go.PF
open Go Go.RowKit Go.Proofs

theorem w_laws_eqRuleS {w : World} {M : Nat → Prop} (hG : ARep (RArr 4 RShape) w M shapes ⟨0, 0, none⟩) (hO : ∀ b, M b → b < w.heap.size) {v0p : Value} {a_a : List Rule} (h0 : VRep (RSlice RRule) w M a_a v0p) {v1p : Value} {a_b : List Rule} (h1 : VRep (RSlice RRule) w M a_b v1p) {r : Bool} (h : F.laws_eqRuleS a_a a_b = some r) :
  Calls Tryd.prog 164 [v0p, v1p].toArray w fun e w' => ∃ v, e = .returned v ∧ VRep RBool w' M r v ∧ BX No w w' := by
 have hC : Cx No w M w M := Cx.start hO (fun _ e => e.elim)
 refine walk (N := 27) Tryd.func164 Z Tryd.ntmps164 Z (cw_seq (cw_region (lw_op Z Z Z (ow_assign Z Z (lw_nil (ew_then (cw_seq (cw_seq (cw_region (lw_op Z Z Z (ow_move Z Z (lw_op Z Z Z (ow_len Z Z h0 Tryd.underlying39 Z (lw_op Z Z Z (ow_move Z Z (lw_op Z Z Z (ow_len Z Z h1 Tryd.underlying39 Z (lw_op Z Z Z (ow_neqI Z Z Z fun bb1 hbb1 => lw_nil (ew_then ?_))))))))))))))))))))
 replace h := cond_some h
 rcases h with ⟨hc1, h⟩ | ⟨hc1, h⟩
 ·
  obtain rfl := hbb1.trans hc1
  refine cw_true Z (cw_seq (cw_region (lw_op Z Z Z (ow_assign Z Z (lw_nil (ew_then (cw_ret (ew_thenR ?_))))))))
  obtain rfl := sj h
  exact ew_ret (res1 Z (.tmp Z)) ⟨_, Z, ((vbool _)), hC.bx⟩
 ·
  obtain rfl := hbb1.trans hc1
  refine cw_false Z (cw_skip (ew_then (cw_seq (cw_seq (cw_region (lw_op Z Z Z (ow_assign Z Z (lw_nil (ew_then ?_)))))))))
  replace h := bind_some h
  obtain ⟨lr1, hlr1, h⟩ := h
  refine cw_for hlr1 (fun s a w' => ∃ (M' : Nat → Prop), Fits 27 [(0, v0p), (1, v1p), (5, (Zv s))] a ∧ Le w M w' M' ∧ Cx No w M w' M') ?_ ?_ ?_
  · exact fun a ha => ⟨M, ha.sub ⟨Z, Z, Z, Zt⟩, Le.refl _ _, hC⟩
  ·
   rintro k1 a w1 sr1 ⟨M1, hF1, hl1, hC1⟩ hb1 hR1
   refine cw_at (E := [(0, v0p), (1, v1p), (5, (Zv k1))]) hF1 (cw_seq (cw_seq (cw_region (lw_op Z Z Z (ow_move Z Z (lw_op Z Z Z (ow_move Z Z (lw_op Z Z Z (ow_len Z Z (VRep.mono hl1 h0) Tryd.underlying39 Z (lw_op Z Z Z (ow_lss Z Z Z fun bb2 hbb2 => lw_nil (ew_then ?_))))))))))))
   replace hb1 := cond_some hb1
   rcases hb1 with ⟨hc2, hb1⟩ | ⟨hc2, hb1⟩
   ·
    obtain rfl := hbb2.trans hc2
    refine cw_true Z (cw_skip (ew_then (cw_seq (cw_block (cw_seq ?_)))))
    replace hb1 := bind_some hb1
    obtain ⟨x1, hx1, hb1⟩ := hb1
    replace hb1 := bind_some hb1
    obtain ⟨x2, hx2, hb1⟩ := hb1
    refine cw_sub (E' := [(0, v0p), (1, v1p), (5, (Zv k1))]) ⟨Z, Z, Z, Zt⟩ (cw_drawQ 8 [PV (RSlice RRule) M1 a_a, PEq (Zv k1), PA RRule M1 x1, PV RRule M1 x1, PV (RSlice RRule) M1 a_b, PEq (Zv k1), PA RRule M1 x2, PV RRule M1 x2] (by kernel_rfl) Z (by kernel_rfl) ⟨PV.mono _ _ _, Zq, PA.mono _ _ _, PV.mono _ _ _, PV.mono _ _ _, Zq, PA.mono _ _ _, PV.mono _ _ _, Zt⟩ ⟨?_, ?_, ?_, ?_, ?_, ?_, ?_, ?_, Zt⟩ ?_)
    ·
     intro w2 D hS1 hd1
     have hl2 := Le.no M1 hS1
     exact dg_sub (E' := [(0, v0p)]) ⟨Z, Zt⟩ (dg_plain Z (ow_move Z Z ⟨BX.refl _ _, (VRep.mono (hl1.trans hl2) h0)⟩))
    · exact fun w3 D hS2 hd2 => dg_sub (E' := [(5, (Zv k1))]) ⟨Z, Zt⟩ (dg_plain Z (ow_move Z Z Zb))
    ·
     intro w4 D hS3 hd3
     have d1 : PV (RSlice RRule) M1 a_a (D 0) w4 := dpA hd3 0 Z
     generalize hq1 : (D 0) = v4 at d1
     exact dg_sub (E' := [(17, v4), (18, (Zv k1))]) ⟨congrArg some hq1, dpE hd3 1 Z Z, Zt⟩ (dg_plain Z (ow_indexSlice (R := RRule) Z Z Z d1 Tryd.underlying39 (Tryd.sizeOf38 _) hx1 fun p3 hp3 => ⟨BX.refl _ _, ⟨_, Z, hp3⟩⟩))
    ·
     intro w5 D hS4 hd4
     have d3 : PA RRule M1 x1 (D 2) w5 := dpA hd4 2 Z
     obtain ⟨p4, e1, ha1⟩ := d3
     exact dg_sub (E' := [(19, (.pointer (some p4)))]) ⟨congrArg some e1, Zt⟩ (dg_plain Z (ow_load (R := RRule) Z Z ha1 (Tryd.sizeOf38 _) (Tryd.isAgg38 _) fun v5 hv5 => ⟨BX.refl _ _, hv5⟩))
    ·
     intro w6 D hS5 hd5
     have hl6 := Le.no M1 hS5
     exact dg_sub (E' := [(1, v1p)]) ⟨Z, Zt⟩ (dg_plain Z (ow_move Z Z ⟨BX.refl _ _, (VRep.mono (hl1.trans hl6) h1)⟩))
    · exact fun w7 D hS6 hd6 => dg_sub (E' := [(5, (Zv k1))]) ⟨Z, Zt⟩ (dg_plain Z (ow_move Z Z Zb))
    ·
     intro w8 D hS7 hd7
     have d4 : PV (RSlice RRule) M1 a_b (D 4) w8 := dpA hd7 4 Z
     generalize hq2 : (D 4) = v6 at d4
     exact dg_sub (E' := [(21, v6), (22, (Zv k1))]) ⟨congrArg some hq2, dpE hd7 5 Z Z, Zt⟩ (dg_plain Z (ow_indexSlice (R := RRule) Z Z Z d4 Tryd.underlying39 (Tryd.sizeOf38 _) hx2 fun p5 hp5 => ⟨BX.refl _ _, ⟨_, Z, hp5⟩⟩))
    ·
     intro w9 D hS8 hd8
     have d6 : PA RRule M1 x2 (D 6) w9 := dpA hd8 6 Z
     obtain ⟨p6, e2, ha2⟩ := d6
     exact dg_sub (E' := [(23, (.pointer (some p6)))]) ⟨congrArg some e2, Zt⟩ (dg_plain Z (ow_load (R := RRule) Z Z ha2 (Tryd.sizeOf38 _) (Tryd.isAgg38 _) fun v7 hv7 => ⟨BX.refl _ _, hv7⟩))
    ·
     intro w10 D hS9 hd9
     have d10 : PV RRule M1 x1 (D 3) w10 := dpA hd9 3 Z
     have d14 : PV RRule M1 x2 (D 7) w10 := dpA hd9 7 Z
     have hl10 := Le.no M1 hS9
     have hC10 := hC1.no hS9
     generalize hq3 : (D 3) = v8 at d10
     generalize hq4 : (D 7) = v9 at d14
     refine lw_sub (E' := [(20, v8), (24, v9), (0, v0p), (1, v1p), (5, (Zv k1))]) ⟨congrArg some hq3, congrArg some hq4, Z, Z, Z, Zt⟩ ?_
     replace hb1 := bind_some hb1
     obtain ⟨x3, hx3, hb1⟩ := hb1
     refine lw_op Z Z Z (ow_call Z Z Tryd.call185 (w_laws_eqRule (hG.mono (hl1.trans hl10)) hC10.old d10 d14 hx3) fun v10 w11 hv10 => ?_)
     obtain ⟨hv10, hb2⟩ := hv10
     have hl11 := Le.no M1 hb2
     have hC11 := hC10.no hb2
     obtain rfl := vbool_eq hv10
     refine lw_op Z Z Z (ow_not Z Z (lw_nil (ew_then ?_)))
     replace hb1 := cond_some hb1
     rcases hb1 with ⟨hc3, hb1⟩ | ⟨hc3, hb1⟩
     ·
      subst hc3
      refine cw_false Z (cw_skip (ew_blockN (ew_then (cw_region (lw_op Z Z Z (ow_move Z Z (lw_op Z Z Z (ow_add Z Z Z (lw_op Z Z Z (ow_assign Z Z (lw_nil ?_)))))))))))
      have lz1 := ((hl1.trans hl10).trans hl11)
      exact ew_nxt (W (k1 + 1)) hb1 fun a ha => ⟨M1, (ha.sub ⟨Z, Z, Z, Zt⟩), lz1, hC11⟩
     ·
      subst hc3
      refine cw_true Z (cw_seq (cw_region (lw_op Z Z Z (ow_assign Z Z (lw_nil (ew_then (cw_ret (ew_blockR (ew_thenR (ew_thenR (ew_blockR (ew_brkR (ew_thenR ?_)))))))))))))
      have e3 := hR1 _ (sj hb1).symm
      subst e3
      obtain rfl := sj h
      exact ew_ret (res1 Z (.tmp Z)) ⟨_, Z, ((vbool _)), hC11.bx⟩
   ·
    obtain rfl := hbb2.trans hc2
    exact cw_false Z (cw_exit (ew_thenX (ew_thenX (ew_blockX (ew_brk k1 hb1 fun a ha => ⟨M1, (ha.sub ⟨Z, Z, Z, Zt⟩), hl1, hC1⟩)))))
  ·
   rintro k2 a w12 hlr2 ⟨M2, hF2, hl12, hC12⟩
   subst hlr2
   refine ew_at (E := [(0, v0p), (1, v1p), (5, (Zv k2))]) hF2 (ew_then (cw_seq (cw_region (lw_op Z Z Z (ow_assign Z Z (lw_nil (ew_then (cw_ret ?_))))))))
   obtain rfl := sj h
   exact ew_ret (res1 Z (.tmp Z)) ⟨_, Z, ((vbool _)), hC12.bx⟩

theorem w_laws_eqRuleSS {w : World} {M : Nat → Prop} (hG : ARep (RArr 4 RShape) w M shapes ⟨0, 0, none⟩) (hO : ∀ b, M b → b < w.heap.size) {v0p : Value} {a_a : List (List Rule)} (h0 : VRep (RSlice (RSlice RRule)) w M a_a v0p) {v1p : Value} {a_b : List (List Rule)} (h1 : VRep (RSlice (RSlice RRule)) w M a_b v1p) {r : Bool} (h : F.laws_eqRuleSS a_a a_b = some r) :
  Calls Tryd.prog 121 [v0p, v1p].toArray w fun e w' => ∃ v, e = .returned v ∧ VRep RBool w' M r v ∧ BX No w w' := by
 have hC : Cx No w M w M := Cx.start hO (fun _ e => e.elim)
 refine walk (N := 27) Tryd.func121 Z Tryd.ntmps121 Z (cw_seq (cw_region (lw_op Z Z Z (ow_assign Z Z (lw_nil (ew_then (cw_seq (cw_seq (cw_region (lw_op Z Z Z (ow_move Z Z (lw_op Z Z Z (ow_len Z Z h0 Tryd.underlying23 Z (lw_op Z Z Z (ow_move Z Z (lw_op Z Z Z (ow_len Z Z h1 Tryd.underlying23 Z (lw_op Z Z Z (ow_neqI Z Z Z fun bb1 hbb1 => lw_nil (ew_then ?_))))))))))))))))))))
 replace h := cond_some h
 rcases h with ⟨hc1, h⟩ | ⟨hc1, h⟩
 ·
  obtain rfl := hbb1.trans hc1
  refine cw_true Z (cw_seq (cw_region (lw_op Z Z Z (ow_assign Z Z (lw_nil (ew_then (cw_ret (ew_thenR ?_))))))))
  obtain rfl := sj h
  exact ew_ret (res1 Z (.tmp Z)) ⟨_, Z, ((vbool _)), hC.bx⟩
 ·
  obtain rfl := hbb1.trans hc1
  refine cw_false Z (cw_skip (ew_then (cw_seq (cw_seq (cw_region (lw_op Z Z Z (ow_assign Z Z (lw_nil (ew_then ?_)))))))))
  replace h := bind_some h
  obtain ⟨lr1, hlr1, h⟩ := h
  refine cw_for hlr1 (fun s a w' => ∃ (M' : Nat → Prop), Fits 27 [(0, v0p), (1, v1p), (5, (Zv s))] a ∧ Le w M w' M' ∧ Cx No w M w' M') ?_ ?_ ?_
  · exact fun a ha => ⟨M, ha.sub ⟨Z, Z, Z, Zt⟩, Le.refl _ _, hC⟩
  ·
   rintro k1 a w1 sr1 ⟨M1, hF1, hl1, hC1⟩ hb1 hR1
   refine cw_at (E := [(0, v0p), (1, v1p), (5, (Zv k1))]) hF1 (cw_seq (cw_seq (cw_region (lw_op Z Z Z (ow_move Z Z (lw_op Z Z Z (ow_move Z Z (lw_op Z Z Z (ow_len Z Z (VRep.mono hl1 h0) Tryd.underlying23 Z (lw_op Z Z Z (ow_lss Z Z Z fun bb2 hbb2 => lw_nil (ew_then ?_))))))))))))
   replace hb1 := cond_some hb1
   rcases hb1 with ⟨hc2, hb1⟩ | ⟨hc2, hb1⟩
   ·
    obtain rfl := hbb2.trans hc2
    refine cw_true Z (cw_skip (ew_then (cw_seq (cw_block (cw_seq ?_)))))
    replace hb1 := bind_some hb1
    obtain ⟨x1, hx1, hb1⟩ := hb1
    replace hb1 := bind_some hb1
    obtain ⟨x2, hx2, hb1⟩ := hb1
    refine cw_sub (E' := [(0, v0p), (1, v1p), (5, (Zv k1))]) ⟨Z, Z, Z, Zt⟩ (cw_drawQ 8 [PV (RSlice (RSlice RRule)) M1 a_a, PEq (Zv k1), PA (RSlice RRule) M1 x1, PV (RSlice RRule) M1 x1, PV (RSlice (RSlice RRule)) M1 a_b, PEq (Zv k1), PA (RSlice RRule) M1 x2, PV (RSlice RRule) M1 x2] (by kernel_rfl) Z (by kernel_rfl) ⟨PV.mono _ _ _, Zq, PA.mono _ _ _, PV.mono _ _ _, PV.mono _ _ _, Zq, PA.mono _ _ _, PV.mono _ _ _, Zt⟩ ⟨?_, ?_, ?_, ?_, ?_, ?_, ?_, ?_, Zt⟩ ?_)
    ·
     intro w2 D hS1 hd1
     have hl2 := Le.no M1 hS1
     exact dg_sub (E' := [(0, v0p)]) ⟨Z, Zt⟩ (dg_plain Z (ow_move Z Z ⟨BX.refl _ _, (VRep.mono (hl1.trans hl2) h0)⟩))
    · exact fun w3 D hS2 hd2 => dg_sub (E' := [(5, (Zv k1))]) ⟨Z, Zt⟩ (dg_plain Z (ow_move Z Z Zb))
    ·
     intro w4 D hS3 hd3
     have d1 : PV (RSlice (RSlice RRule)) M1 a_a (D 0) w4 := dpA hd3 0 Z
     generalize hq1 : (D 0) = v4 at d1
     exact dg_sub (E' := [(17, v4), (18, (Zv k1))]) ⟨congrArg some hq1, dpE hd3 1 Z Z, Zt⟩ (dg_plain Z (ow_indexSlice (R := (RSlice RRule)) Z Z Z d1 Tryd.underlying23 (Tryd.sizeOf39 _) hx1 fun p3 hp3 => ⟨BX.refl _ _, ⟨_, Z, hp3⟩⟩))
    ·
     intro w5 D hS4 hd4
     have d3 : PA (RSlice RRule) M1 x1 (D 2) w5 := dpA hd4 2 Z
     obtain ⟨p4, e1, ha1⟩ := d3
     exact dg_sub (E' := [(19, (.pointer (some p4)))]) ⟨congrArg some e1, Zt⟩ (dg_plain Z (ow_load (R := (RSlice RRule)) Z Z ha1 (Tryd.sizeOf39 _) (Tryd.isAgg39 _) fun v5 hv5 => ⟨BX.refl _ _, hv5⟩))
    ·
     intro w6 D hS5 hd5
     have hl6 := Le.no M1 hS5
     exact dg_sub (E' := [(1, v1p)]) ⟨Z, Zt⟩ (dg_plain Z (ow_move Z Z ⟨BX.refl _ _, (VRep.mono (hl1.trans hl6) h1)⟩))
    · exact fun w7 D hS6 hd6 => dg_sub (E' := [(5, (Zv k1))]) ⟨Z, Zt⟩ (dg_plain Z (ow_move Z Z Zb))
    ·
     intro w8 D hS7 hd7
     have d4 : PV (RSlice (RSlice RRule)) M1 a_b (D 4) w8 := dpA hd7 4 Z
     generalize hq2 : (D 4) = v6 at d4
     exact dg_sub (E' := [(21, v6), (22, (Zv k1))]) ⟨congrArg some hq2, dpE hd7 5 Z Z, Zt⟩ (dg_plain Z (ow_indexSlice (R := (RSlice RRule)) Z Z Z d4 Tryd.underlying23 (Tryd.sizeOf39 _) hx2 fun p5 hp5 => ⟨BX.refl _ _, ⟨_, Z, hp5⟩⟩))
    ·
     intro w9 D hS8 hd8
     have d6 : PA (RSlice RRule) M1 x2 (D 6) w9 := dpA hd8 6 Z
     obtain ⟨p6, e2, ha2⟩ := d6
     exact dg_sub (E' := [(23, (.pointer (some p6)))]) ⟨congrArg some e2, Zt⟩ (dg_plain Z (ow_load (R := (RSlice RRule)) Z Z ha2 (Tryd.sizeOf39 _) (Tryd.isAgg39 _) fun v7 hv7 => ⟨BX.refl _ _, hv7⟩))
    ·
     intro w10 D hS9 hd9
     have d10 : PV (RSlice RRule) M1 x1 (D 3) w10 := dpA hd9 3 Z
     have d14 : PV (RSlice RRule) M1 x2 (D 7) w10 := dpA hd9 7 Z
     have hl10 := Le.no M1 hS9
     have hC10 := hC1.no hS9
     generalize hq3 : (D 3) = v8 at d10
     generalize hq4 : (D 7) = v9 at d14
     refine lw_sub (E' := [(20, v8), (24, v9), (0, v0p), (1, v1p), (5, (Zv k1))]) ⟨congrArg some hq3, congrArg some hq4, Z, Z, Z, Zt⟩ ?_
     replace hb1 := bind_some hb1
     obtain ⟨x3, hx3, hb1⟩ := hb1
     refine lw_op Z Z Z (ow_call Z Z Tryd.call164 (w_laws_eqRuleS (hG.mono (hl1.trans hl10)) hC10.old d10 d14 hx3) fun v10 w11 hv10 => ?_)
     obtain ⟨hv10, hb2⟩ := hv10
     have hl11 := Le.no M1 hb2
     have hC11 := hC10.no hb2
     obtain rfl := vbool_eq hv10
     refine lw_op Z Z Z (ow_not Z Z (lw_nil (ew_then ?_)))
     replace hb1 := cond_some hb1
     rcases hb1 with ⟨hc3, hb1⟩ | ⟨hc3, hb1⟩
     ·
      subst hc3
      refine cw_false Z (cw_skip (ew_blockN (ew_then (cw_region (lw_op Z Z Z (ow_move Z Z (lw_op Z Z Z (ow_add Z Z Z (lw_op Z Z Z (ow_assign Z Z (lw_nil ?_)))))))))))
      have lz1 := ((hl1.trans hl10).trans hl11)
      exact ew_nxt (W (k1 + 1)) hb1 fun a ha => ⟨M1, (ha.sub ⟨Z, Z, Z, Zt⟩), lz1, hC11⟩
     ·
      subst hc3
      refine cw_true Z (cw_seq (cw_region (lw_op Z Z Z (ow_assign Z Z (lw_nil (ew_then (cw_ret (ew_blockR (ew_thenR (ew_thenR (ew_blockR (ew_brkR (ew_thenR ?_)))))))))))))
      have e3 := hR1 _ (sj hb1).symm
      subst e3
      obtain rfl := sj h
      exact ew_ret (res1 Z (.tmp Z)) ⟨_, Z, ((vbool _)), hC11.bx⟩
   ·
    obtain rfl := hbb2.trans hc2
    exact cw_false Z (cw_exit (ew_thenX (ew_thenX (ew_blockX (ew_brk k1 hb1 fun a ha => ⟨M1, (ha.sub ⟨Z, Z, Z, Zt⟩), hl1, hC1⟩)))))
  ·
   rintro k2 a w12 hlr2 ⟨M2, hF2, hl12, hC12⟩
   subst hlr2
   refine ew_at (E := [(0, v0p), (1, v1p), (5, (Zv k2))]) hF2 (ew_then (cw_seq (cw_region (lw_op Z Z Z (ow_assign Z Z (lw_nil (ew_then (cw_ret ?_))))))))
   obtain rfl := sj h
   exact ew_ret (res1 Z (.tmp Z)) ⟨_, Z, ((vbool _)), hC12.bx⟩

theorem w_laws_eqRuleset {w : World} {M : Nat → Prop} (hG : ARep (RArr 4 RShape) w M shapes ⟨0, 0, none⟩) (hO : ∀ b, M b → b < w.heap.size) {v0p : Value} {a_a : Ruleset} (h0 : VRep RRuleset w M a_a v0p) {v1p : Value} {a_b : Ruleset} (h1 : VRep RRuleset w M a_b v1p) {r : Bool} (h : F.laws_eqRuleset a_a a_b = some r) :
  Calls Tryd.prog 51 [v0p, v1p].toArray w fun e w' => ∃ v, e = .returned v ∧ VRep RBool w' M r v ∧ BX No w w' := by
 have hC : Cx No w M w M := Cx.start hO (fun _ e => e.elim)
 refine walk (N := 16) Tryd.func51 Z Tryd.ntmps51 Z (cw_seq (cw_region (lw_op Z Z Z (ow_box (R := RRuleset) Z Z h0 hC fun p1 w1 hp1 hb1 hl1 hC1 => lw_op Z Z Z (ow_box (R := RRuleset) Z Z (VRep.mono hl1 h1) hC1 fun p2 w2 hp2 hb2 hl2 hC2 => lw_op Z Z Z (ow_assign Z Z (lw_nil (ew_then (cw_seq (cw_seq (cw_region (lw_op Z Z Z (ow_fieldAddr Z Z Tryd.underlying25 Z (Tryd.sizeOf23 _) (lw_op Z Z Z (ow_load (R := (RSlice (RSlice RRule))) Z Z (ARep.mono hl2 (hp1.fld fld_Ruleset_Chains)) (Tryd.sizeOf23 _) (Tryd.isAgg23 _) fun v1 hv1 => lw_op Z Z Z (ow_fieldAddr Z Z Tryd.underlying25 Z (Tryd.sizeOf23 _) (lw_op Z Z Z (ow_load (R := (RSlice (RSlice RRule))) Z Z (hp2.fld fld_Ruleset_Chains) (Tryd.sizeOf23 _) (Tryd.isAgg23 _) fun v2 hv2 => ?_))))))))))))))))))
 replace h := bind_some h
 obtain ⟨x1, hx1, h⟩ := h
 refine lw_op Z Z Z (ow_call Z Z Tryd.call121 (w_laws_eqRuleSS (hG.mono (hl1.trans hl2)) hC2.old hv1 hv2 hx1) fun v3 w3 hv3 => ?_)
 obtain ⟨hv3, hb3⟩ := hv3
 have hl3 := Le.no M hb3
 have hC3 := hC2.no hb3
 obtain rfl := vbool_eq hv3
 refine lw_op Z Z Z (ow_not Z Z (lw_nil (ew_then ?_)))
 replace h := cond_some h
 rcases h with ⟨hc1, h⟩ | ⟨hc1, h⟩
 ·
  subst hc1
  refine cw_false Z (cw_skip (ew_then (cw_seq (cw_seq (cw_region (lw_op Z Z Z (ow_fieldAddr Z Z Tryd.underlying25 Z (Tryd.sizeOf4 _) (lw_op Z Z Z (ow_load (R := RBool) Z Z (ARep.mono (hl2.trans hl3) (hp1.fld fld_Ruleset_Accept)) (Tryd.sizeOf4 _) (Tryd.isAgg4 _) fun v4 hv4 => ?_)))))))))
  obtain ⟨bb1, hbb1, rfl⟩ := vbool_ex hv4
  refine lw_op Z Z Z (ow_fieldAddr Z Z Tryd.underlying25 Z (Tryd.sizeOf4 _) (lw_op Z Z Z (ow_load (R := RBool) Z Z (ARep.mono hl3 (hp2.fld fld_Ruleset_Accept)) (Tryd.sizeOf4 _) (Tryd.isAgg4 _) fun v5 hv5 => ?_)))
  obtain ⟨bb2, hbb2, rfl⟩ := vbool_ex hv5
  refine lw_op Z Z Z (ow_neqB Z Z Z Tryd.underlying4 fun bb3 hbb3 => ?_)
  have hbb3' : bb3 = (a_a.Accept != a_b.Accept) := hbb3.trans (by rw [hbb1, hbb2])
  refine lw_nil (ew_then ?_)
  replace h := cond_some h
  rcases h with ⟨hc2, h⟩ | ⟨hc2, h⟩
  ·
   obtain rfl := hbb3'.trans hc2
   refine cw_true Z (cw_seq (cw_region (lw_op Z Z Z (ow_assign Z Z (lw_nil (ew_then (cw_ret (ew_thenR ?_))))))))
   obtain rfl := sj h
   exact ew_ret (res1 Z (.tmp Z)) ⟨_, Z, ((vbool _)), hC3.bx⟩
  ·
   obtain rfl := hbb3'.trans hc2
   refine cw_false Z (cw_skip (ew_then (cw_seq (cw_region (lw_op Z Z Z (ow_assign Z Z (lw_nil (ew_then (cw_ret ?_)))))))))
   obtain rfl := sj h
   exact ew_ret (res1 Z (.tmp Z)) ⟨_, Z, ((vbool _)), hC3.bx⟩
 ·
  subst hc1
  refine cw_true Z (cw_seq (cw_region (lw_op Z Z Z (ow_assign Z Z (lw_nil (ew_then (cw_ret (ew_thenR ?_))))))))
  obtain rfl := sj h
  exact ew_ret (res1 Z (.tmp Z)) ⟨_, Z, ((vbool _)), hC3.bx⟩

theorem wm_laws_markTestS {Y : Nat → Prop} {w : World} (hU : UFz Y w) {v0p : Value} {a_a : List Test} (h0 : VRep (RSlice RTestA) w (NotY Y) a_a v0p) {a_k : Int} {r : Int} (h : F.laws_markTestS a_a a_k = some r) :
  Calls Tryd.prog 28 [v0p, (.int .i64 a_k)].toArray w fun e w' => ∃ v, e = .returned v ∧ v = .int .i64 r ∧ MK Y w w' := by
 have hO : ∀ b, Y b → b < w.heap.size := fun b h => (hU b h).1
 have hC : Cx Y w Y w Y := Cx.start hO (fun _ h => h)
 refine walk (N := 43) Tryd.func28 Z Tryd.ntmps28 Z (cw_seq (cw_region (lw_op Z Z Z (ow_assign Z Z (lw_nil (ew_then (cw_seq (cw_seq (cw_region (lw_op Z Z Z (ow_assign Z Z (lw_nil (ew_then ?_)))))))))))))
 replace h := bind_some h
 obtain ⟨lr1, hlr1, h⟩ := h
 refine cw_for hlr1 (fun s a w' => ∃ (M' : Nat → Prop), Fits 43 [(0, v0p), (1, (Zv s.1)), (5, (Zv s.2))] a ∧ Le w Y w' M' ∧ Cx Y w Y w' M' ∧ MK Y w w') ?_ ?_ ?_
 · exact fun a ha => ⟨Y, ha.sub ⟨Z, Z, Z, Zt⟩, Le.refl _ _, hC, (MK.refl _ _)⟩
 ·
  rintro ⟨k1, k2⟩ a w1 sr1 ⟨M1, hF1, hl1, hC1, hmk1⟩ hb1 hR1
  refine cw_at (E := [(0, v0p), (1, (Zv k1)), (5, (Zv k2))]) hF1 (cw_seq (cw_seq (cw_region (lw_op Z Z Z (ow_move Z Z (lw_op Z Z Z (ow_move Z Z (lw_op Z Z Z (ow_len Z Z (KnA.vrep (KnA.slice knA_Test) hmk1.kin h0) Tryd.underlying36 Z (lw_op Z Z Z (ow_lss Z Z Z fun bb1 hbb1 => lw_nil (ew_then ?_))))))))))))
  replace hb1 := cond_some hb1
  rcases hb1 with ⟨hc1, hb1⟩ | ⟨hc1, hb1⟩
  ·
   obtain rfl := hbb1.trans hc1
   refine cw_true Z (cw_skip (ew_then (cw_seq (cw_block (cw_seq (cw_region (lw_op Z Z Z (ow_move Z Z (lw_op Z Z Z (ow_move Z Z (lw_op Z Z Z (ow_move Z Z ?_))))))))))))
   replace hb1 := bind_some hb1
   obtain ⟨x1, hx1, hb1⟩ := hb1
   refine lw_op Z Z Z (ow_indexSlice (R := RTestA) Z Z Z (KnA.vrep (KnA.slice knA_Test) hmk1.kin h0) Tryd.underlying36 (Tryd.sizeOf128 _) hx1 fun p1 hp1 => lw_op Z Z Z (ow_fieldAddr Z Z Tryd.underlying128 Z (Tryd.sizeOf3 _) (lw_op0 Z Z (ow_storeK (R := RIntA) Z Z Z (hp1.fld fldA_Test_Field) Z kd_int Z Z (Tryd.sizeOf3 _) (hU.mk hmk1) fun w2 hmk2 => ?_))))
   have hl2 := Le.of_bx M1 hmk2.bx hC1.xm
   have hC2 := hC1.go hmk2.bx (fun b e => .inr e)
   refine lw_nil (ew_then (cw_seq (cw_region (lw_op Z Z Z (ow_move Z Z (lw_op Z Z Z (ow_add Z Z Z (lw_op Z Z Z (ow_assign Z Z (lw_nil (ew_then (cw_seq (cw_region (lw_op Z Z Z (ow_move Z Z (lw_op Z Z Z (ow_move Z Z (lw_op Z Z Z (ow_move Z Z (lw_op Z Z Z (ow_indexSlice (R := RTestA) Z Z Z (KnA.vrep (KnA.slice knA_Test) (hmk1.trans hmk2).kin h0) Tryd.underlying36 (Tryd.sizeOf128 _) hx1 fun p2 hp2 => lw_op Z Z Z (ow_fieldAddr Z Z Tryd.underlying128 Z (Tryd.sizeOf3 _) (lw_op0 Z Z (ow_storeK (R := RIntA) Z Z Z (hp2.fld fldA_Test_Lo) Z kd_int Z Z (Tryd.sizeOf3 _) (hU.mk (hmk1.trans hmk2)) fun w3 hmk3 => ?_))))))))))))))))))))))))
   have hl3 := Le.of_bx M1 hmk3.bx hC2.xm
   have hC3 := hC2.go hmk3.bx (fun b e => .inr e)
   refine lw_nil (ew_then (cw_seq (cw_region (lw_op Z Z Z (ow_move Z Z (lw_op Z Z Z (ow_add Z Z Z (lw_op Z Z Z (ow_assign Z Z (lw_nil (ew_then (cw_seq (cw_region (lw_op Z Z Z (ow_move Z Z (lw_op Z Z Z (ow_move Z Z (lw_op Z Z Z (ow_move Z Z (lw_op Z Z Z (ow_indexSlice (R := RTestA) Z Z Z (KnA.vrep (KnA.slice knA_Test) ((hmk1.trans hmk2).trans hmk3).kin h0) Tryd.underlying36 (Tryd.sizeOf128 _) hx1 fun p3 hp3 => lw_op Z Z Z (ow_fieldAddr Z Z Tryd.underlying128 Z (Tryd.sizeOf3 _) (lw_op0 Z Z (ow_storeK (R := RIntA) Z Z Z (hp3.fld fldA_Test_Hi) Z kd_int Z Z (Tryd.sizeOf3 _) (hU.mk ((hmk1.trans hmk2).trans hmk3)) fun w4 hmk4 => ?_))))))))))))))))))))))))
   have hl4 := Le.of_bx M1 hmk4.bx hC3.xm
   have hC4 := hC3.go hmk4.bx (fun b e => .inr e)
   refine lw_nil (ew_then (cw_seq (cw_region (lw_op Z Z Z (ow_move Z Z (lw_op Z Z Z (ow_add Z Z Z (lw_op Z Z Z (ow_assign Z Z (lw_nil (ew_then (cw_seq (cw_region (lw_op Z Z Z (ow_move Z Z (lw_op Z Z Z (ow_move Z Z (lw_op Z Z Z (ow_move Z Z (lw_op Z Z Z (ow_rem Z Z Z (by decide) (lw_op Z Z Z (ow_eqlI Z Z Z fun bb2 hbb2 => lw_op Z Z Z (ow_indexSlice (R := RTestA) Z Z Z (KnA.vrep (KnA.slice knA_Test) (((hmk1.trans hmk2).trans hmk3).trans hmk4).kin h0) Tryd.underlying36 (Tryd.sizeOf128 _) hx1 fun p4 hp4 => lw_op Z Z Z (ow_fieldAddr Z Z Tryd.underlying128 Z (Tryd.sizeOf4 _) (lw_op0 Z Z (ow_storeK (R := RBoolA) Z Z Z (hp4.fld fldA_Test_Not) Z kd_bool Z Z (Tryd.sizeOf4 _) (hU.mk (((hmk1.trans hmk2).trans hmk3).trans hmk4)) fun w5 hmk5 => ?_)))))))))))))))))))))))))))
   have hl5 := Le.of_bx M1 hmk5.bx hC4.xm
   have hC5 := hC4.go hmk5.bx (fun b e => .inr e)
   refine lw_nil (ew_then (cw_region (lw_op Z Z Z (ow_move Z Z (lw_op Z Z Z (ow_add Z Z Z (lw_op Z Z Z (ow_assign Z Z (lw_nil (ew_blockN (ew_then (cw_region (lw_op Z Z Z (ow_move Z Z (lw_op Z Z Z (ow_add Z Z Z (lw_op Z Z Z (ow_assign Z Z (lw_nil ?_)))))))))))))))))))
   have lz1 := ((((hl1.trans hl2).trans hl3).trans hl4).trans hl5)
   exact ew_nxt ((W ((W ((W ((W (k1 + 1)) + 1)) + 1)) + 1)), (W (k2 + 1))) hb1 fun a ha => ⟨M1, (ha.sub ⟨Z, Z, Z, Zt⟩), lz1, hC5, ((((hmk1.trans hmk2).trans hmk3).trans hmk4).trans hmk5)⟩
  ·
   obtain rfl := hbb1.trans hc1
   exact cw_false Z (cw_exit (ew_thenX (ew_thenX (ew_blockX (ew_brk (k1, k2) hb1 fun a ha => ⟨M1, (ha.sub ⟨Z, Z, Z, Zt⟩), hl1, hC1, hmk1⟩)))))
 ·
  rintro ⟨k3, k4⟩ a w6 hlr2 ⟨M2, hF2, hl6, hC6, hmk6⟩
  subst hlr2
  refine ew_at (E := [(0, v0p), (1, (Zv k3)), (5, (Zv k4))]) hF2 (ew_then (cw_seq (cw_region (lw_op Z Z Z (ow_move Z Z (lw_op Z Z Z (ow_assign Z Z (lw_nil (ew_then (cw_ret ?_))))))))))
  obtain rfl := sj h
  exact ew_ret (res1 Z (.tmp Z)) ⟨_, Z, Z, hmk6⟩

theorem wm_laws_markRuleS {Y : Nat → Prop} {w : World} (hU : UFz Y w) {v0p : Value} {a_a : List Rule} (h0 : VRep (RSlice RRuleA) w (NotY Y) a_a v0p) {a_k : Int} {r : Int} (h : F.laws_markRuleS a_a a_k = some r) :
  Calls Tryd.prog 165 [v0p, (.int .i64 a_k)].toArray w fun e w' => ∃ v, e = .returned v ∧ v = .int .i64 r ∧ MK Y w w' := by
 have hO : ∀ b, Y b → b < w.heap.size := fun b h => (hU b h).1
 have hC : Cx Y w Y w Y := Cx.start hO (fun _ h => h)
 refine walk (N := 34) Tryd.func165 Z Tryd.ntmps165 Z (cw_seq (cw_region (lw_op Z Z Z (ow_assign Z Z (lw_nil (ew_then (cw_seq (cw_seq (cw_region (lw_op Z Z Z (ow_assign Z Z (lw_nil (ew_then ?_)))))))))))))
 replace h := bind_some h
 obtain ⟨lr1, hlr1, h⟩ := h
 refine cw_for hlr1 (fun s a w' => ∃ (M' : Nat → Prop), Fits 34 [(0, v0p), (1, (Zv s.1)), (5, (Zv s.2))] a ∧ Le w Y w' M' ∧ Cx Y w Y w' M' ∧ MK Y w w') ?_ ?_ ?_
 · exact fun a ha => ⟨Y, ha.sub ⟨Z, Z, Z, Zt⟩, Le.refl _ _, hC, (MK.refl _ _)⟩
 ·
  rintro ⟨k1, k2⟩ a w1 sr1 ⟨M1, hF1, hl1, hC1, hmk1⟩ hb1 hR1
  refine cw_at (E := [(0, v0p), (1, (Zv k1)), (5, (Zv k2))]) hF1 (cw_seq (cw_seq (cw_region (lw_op Z Z Z (ow_move Z Z (lw_op Z Z Z (ow_move Z Z (lw_op Z Z Z (ow_len Z Z (KnA.vrep (KnA.slice knA_Rule) hmk1.kin h0) Tryd.underlying39 Z (lw_op Z Z Z (ow_lss Z Z Z fun bb1 hbb1 => lw_nil (ew_then ?_))))))))))))
  replace hb1 := cond_some hb1
  rcases hb1 with ⟨hc1, hb1⟩ | ⟨hc1, hb1⟩
  ·
   obtain rfl := hbb1.trans hc1
   refine cw_true Z (cw_skip (ew_then (cw_seq (cw_block (cw_seq (cw_region (lw_op Z Z Z (ow_move Z Z (lw_op Z Z Z (ow_move Z Z ?_))))))))))
   replace hb1 := bind_some hb1
   obtain ⟨x1, hx1, hb1⟩ := hb1
   refine lw_op Z Z Z (ow_indexSlice (R := RRuleA) Z Z Z (KnA.vrep (KnA.slice knA_Rule) hmk1.kin h0) Tryd.underlying39 (Tryd.sizeOf38 _) hx1 fun p1 hp1 => lw_op Z Z Z (ow_fieldAddr Z Z Tryd.underlying38 Z (Tryd.sizeOf36 _) (lw_op Z Z Z (ow_load (R := (RSlice RTestA)) Z Z (hp1.fld fldA_Rule_Tests) (Tryd.sizeOf36 _) (Tryd.isAgg36 _) fun v3 hv3 => lw_op Z Z Z (ow_move Z Z ?_)))))
   replace hb1 := bind_some hb1
   obtain ⟨x2, hx2, hb1⟩ := hb1
   refine lw_op Z Z Z (ow_call Z Z Tryd.call28 (wm_laws_markTestS (hU.mk hmk1) hv3 hx2) fun v4 w2 hv4 => ?_)
   obtain ⟨rfl, hmk2⟩ := hv4
   have hl2 := Le.of_bx M1 hmk2.bx hC1.xm
   have hC2 := hC1.go hmk2.bx (fun b e => .inr e)
   refine lw_op Z Z Z (ow_assign Z Z (lw_nil (ew_then (cw_seq (cw_region (lw_op Z Z Z (ow_move Z Z (lw_op Z Z Z (ow_move Z Z (lw_op Z Z Z (ow_move Z Z (lw_op Z Z Z (ow_indexSlice (R := RRuleA) Z Z Z (KnA.vrep (KnA.slice knA_Rule) (hmk1.trans hmk2).kin h0) Tryd.underlying39 (Tryd.sizeOf38 _) hx1 fun p2 hp2 => lw_op Z Z Z (ow_fieldAddr Z Z Tryd.underlying38 Z (Tryd.sizeOf3 _) (lw_op0 Z Z (ow_storeK (R := RIntA) Z Z Z (hp2.fld fldA_Rule_Action) Z kd_int Z Z (Tryd.sizeOf3 _) (hU.mk (hmk1.trans hmk2)) fun w3 hmk3 => ?_))))))))))))))))
   have hl3 := Le.of_bx M1 hmk3.bx hC2.xm
   have hC3 := hC2.go hmk3.bx (fun b e => .inr e)
   refine lw_nil (ew_then (cw_seq (cw_region (lw_op Z Z Z (ow_move Z Z (lw_op Z Z Z (ow_add Z Z Z (lw_op Z Z Z (ow_assign Z Z (lw_nil (ew_then (cw_seq (cw_region (lw_op Z Z Z (ow_move Z Z (lw_op Z Z Z (ow_move Z Z (lw_op Z Z Z (ow_move Z Z (lw_op Z Z Z (ow_indexSlice (R := RRuleA) Z Z Z (KnA.vrep (KnA.slice knA_Rule) ((hmk1.trans hmk2).trans hmk3).kin h0) Tryd.underlying39 (Tryd.sizeOf38 _) hx1 fun p3 hp3 => lw_op Z Z Z (ow_fieldAddr Z Z Tryd.underlying38 Z (Tryd.sizeOf3 _) (lw_op0 Z Z (ow_storeK (R := RIntA) Z Z Z (hp3.fld fldA_Rule_Chain) Z kd_int Z Z (Tryd.sizeOf3 _) (hU.mk ((hmk1.trans hmk2).trans hmk3)) fun w4 hmk4 => ?_))))))))))))))))))))))))
   have hl4 := Le.of_bx M1 hmk4.bx hC3.xm
   have hC4 := hC3.go hmk4.bx (fun b e => .inr e)
   refine lw_nil (ew_then (cw_region (lw_op Z Z Z (ow_move Z Z (lw_op Z Z Z (ow_add Z Z Z (lw_op Z Z Z (ow_assign Z Z (lw_nil (ew_blockN (ew_then (cw_region (lw_op Z Z Z (ow_move Z Z (lw_op Z Z Z (ow_add Z Z Z (lw_op Z Z Z (ow_assign Z Z (lw_nil ?_)))))))))))))))))))
   have lz1 := (((hl1.trans hl2).trans hl3).trans hl4)
   exact ew_nxt ((W ((W (x2 + 1)) + 1)), (W (k2 + 1))) hb1 fun a ha => ⟨M1, (ha.sub ⟨Z, Z, Z, Zt⟩), lz1, hC4, (((hmk1.trans hmk2).trans hmk3).trans hmk4)⟩
  ·
   obtain rfl := hbb1.trans hc1
   exact cw_false Z (cw_exit (ew_thenX (ew_thenX (ew_blockX (ew_brk (k1, k2) hb1 fun a ha => ⟨M1, (ha.sub ⟨Z, Z, Z, Zt⟩), hl1, hC1, hmk1⟩)))))
 ·
  rintro ⟨k3, k4⟩ a w5 hlr2 ⟨M2, hF2, hl5, hC5, hmk5⟩
  subst hlr2
  refine ew_at (E := [(0, v0p), (1, (Zv k3)), (5, (Zv k4))]) hF2 (ew_then (cw_seq (cw_region (lw_op Z Z Z (ow_move Z Z (lw_op Z Z Z (ow_assign Z Z (lw_nil (ew_then (cw_ret ?_))))))))))
  obtain rfl := sj h
  exact ew_ret (res1 Z (.tmp Z)) ⟨_, Z, Z, hmk5⟩

theorem wm_laws_markRuleSS {Y : Nat → Prop} {w : World} (hU : UFz Y w) {v0p : Value} {a_a : List (List Rule)} (h0 : VRep (RSlice (RSlice RRuleA)) w (NotY Y) a_a v0p) {a_k : Int} {r : Int} (h : F.laws_markRuleSS a_a a_k = some r) :
  Calls Tryd.prog 122 [v0p, (.int .i64 a_k)].toArray w fun e w' => ∃ v, e = .returned v ∧ v = .int .i64 r ∧ MK Y w w' := by
 have hO : ∀ b, Y b → b < w.heap.size := fun b h => (hU b h).1
 have hC : Cx Y w Y w Y := Cx.start hO (fun _ h => h)
 refine walk (N := 19) Tryd.func122 Z Tryd.ntmps122 Z (cw_seq (cw_region (lw_op Z Z Z (ow_assign Z Z (lw_nil (ew_then (cw_seq (cw_seq (cw_region (lw_op Z Z Z (ow_assign Z Z (lw_nil (ew_then ?_)))))))))))))
 replace h := bind_some h
 obtain ⟨lr1, hlr1, h⟩ := h
 refine cw_for hlr1 (fun s a w' => ∃ (M' : Nat → Prop), Fits 19 [(0, v0p), (1, (Zv s.1)), (5, (Zv s.2))] a ∧ Le w Y w' M' ∧ Cx Y w Y w' M' ∧ MK Y w w') ?_ ?_ ?_
 · exact fun a ha => ⟨Y, ha.sub ⟨Z, Z, Z, Zt⟩, Le.refl _ _, hC, (MK.refl _ _)⟩
 ·
  rintro ⟨k1, k2⟩ a w1 sr1 ⟨M1, hF1, hl1, hC1, hmk1⟩ hb1 hR1
  refine cw_at (E := [(0, v0p), (1, (Zv k1)), (5, (Zv k2))]) hF1 (cw_seq (cw_seq (cw_region (lw_op Z Z Z (ow_move Z Z (lw_op Z Z Z (ow_move Z Z (lw_op Z Z Z (ow_len Z Z (KnA.vrep (KnA.slice (KnA.slice knA_Rule)) hmk1.kin h0) Tryd.underlying23 Z (lw_op Z Z Z (ow_lss Z Z Z fun bb1 hbb1 => lw_nil (ew_then ?_))))))))))))
  replace hb1 := cond_some hb1
  rcases hb1 with ⟨hc1, hb1⟩ | ⟨hc1, hb1⟩
  ·
   obtain rfl := hbb1.trans hc1
   refine cw_true Z (cw_skip (ew_then (cw_seq (cw_block (cw_region (lw_op Z Z Z (ow_move Z Z (lw_op Z Z Z (ow_move Z Z ?_)))))))))
   replace hb1 := bind_some hb1
   obtain ⟨x1, hx1, hb1⟩ := hb1
   refine lw_op Z Z Z (ow_indexSlice (R := (RSlice RRuleA)) Z Z Z (KnA.vrep (KnA.slice (KnA.slice knA_Rule)) hmk1.kin h0) Tryd.underlying23 (Tryd.sizeOf39 _) hx1 fun p1 hp1 => lw_op Z Z Z (ow_load (R := (RSlice RRuleA)) Z Z hp1 (Tryd.sizeOf39 _) (Tryd.isAgg39 _) fun v3 hv3 => lw_op Z Z Z (ow_move Z Z ?_)))
   replace hb1 := bind_some hb1
   obtain ⟨x2, hx2, hb1⟩ := hb1
   refine lw_op Z Z Z (ow_call Z Z Tryd.call165 (wm_laws_markRuleS (hU.mk hmk1) hv3 hx2) fun v4 w2 hv4 => ?_)
   obtain ⟨rfl, hmk2⟩ := hv4
   have hl2 := Le.of_bx M1 hmk2.bx hC1.xm
   have hC2 := hC1.go hmk2.bx (fun b e => .inr e)
   exact lw_op Z Z Z (ow_assign Z Z (lw_nil (ew_blockN (ew_then (cw_region (lw_op Z Z Z (ow_move Z Z (lw_op Z Z Z (ow_add Z Z Z (lw_op Z Z Z (ow_assign Z Z (lw_nil (ew_nxt (x2, (W (k2 + 1))) hb1 fun a ha => ⟨M1, (ha.sub ⟨Z, Z, Z, Zt⟩), (hl1.trans hl2), hC2, (hmk1.trans hmk2)⟩)))))))))))))
  ·
   obtain rfl := hbb1.trans hc1
   exact cw_false Z (cw_exit (ew_thenX (ew_thenX (ew_blockX (ew_brk (k1, k2) hb1 fun a ha => ⟨M1, (ha.sub ⟨Z, Z, Z, Zt⟩), hl1, hC1, hmk1⟩)))))
 ·
  rintro ⟨k3, k4⟩ a w3 hlr2 ⟨M2, hF2, hl3, hC3, hmk3⟩
  subst hlr2
  refine ew_at (E := [(0, v0p), (1, (Zv k3)), (5, (Zv k4))]) hF2 (ew_then (cw_seq (cw_region (lw_op Z Z Z (ow_move Z Z (lw_op Z Z Z (ow_assign Z Z (lw_nil (ew_then (cw_ret ?_))))))))))
  obtain rfl := sj h
  exact ew_ret (res1 Z (.tmp Z)) ⟨_, Z, Z, hmk3⟩

theorem wm_laws_markRuleset {Y : Nat → Prop} {w : World} (hU : UFz Y w) {v0p : Value} {a_a : Ruleset} (h0 : VRep RRulesetA w (NotY Y) a_a v0p) {a_k : Int} {r : Int} (h : F.laws_markRuleset a_a a_k = some r) :
  Calls Tryd.prog 52 [v0p, (.int .i64 a_k)].toArray w fun e w' => ∃ v, e = .returned v ∧ v = .int .i64 r ∧ MK Y w w' := by
 have hO : ∀ b, Y b → b < w.heap.size := fun b h => (hU b h).1
 have hC : Cx Y w Y w Y := Cx.start hO (fun _ h => h)
 refine walk (N := 10) Tryd.func52 Z Tryd.ntmps52 Z (cw_seq (cw_region ?_))
 obtain ⟨A1, c1, bb1, rfl, hw1⟩ := openA_Ruleset h0
 refine lw_op Z Z Z (ow_boxOwn Z Z hC fun g1 w1 hg1 hg2 ho1 hb1 hl1 hC1 => lw_op Z Z Z (ow_assign Z Z (lw_nil (ew_then (cw_seq (cw_region (lw_op Z Z Z (ow_fieldAddr Z Z Tryd.underlying25 Z (Tryd.sizeOf23 _) (lw_op Z Z Z (ow_loadOwn1 Z Z Z ho1 (Tryd.isAgg23 _) Z (lw_op Z Z Z (ow_move Z Z ?_))))))))))))
 replace h := bind_some h
 obtain ⟨x1, hx1, h⟩ := h
 refine lw_op Z Z Z (ow_call Z Z Tryd.call122 (wm_laws_markRuleSS (hU.mk (MK.no (Y := Y) hb1)) (KnA.vrep (KnA.slice (KnA.slice knA_Rule)) (MK.no (Y := Y) hb1).kin hw1) hx1) fun v1 w2 hv1 => ?_)
 obtain ⟨rfl, hmk1⟩ := hv1
 refine lw_op Z Z Z (ow_assign Z Z (lw_nil (ew_then (cw_seq (cw_region (lw_op Z Z Z (ow_move Z Z (lw_op Z Z Z (ow_assign Z Z (lw_nil (ew_then (cw_ret ?_))))))))))))
 obtain rfl := sj h
 exact ew_ret (res1 Z (.tmp Z)) ⟨_, Z, Z, ((MK.no (Y := Y) hb1).trans hmk1)⟩

theorem wr_laws_markIntS {w : World} {M : Nat → Prop} (_hG : ARep (RArr 4 RShape) w M shapes ⟨0, 0, none⟩) (hO : ∀ b, M b → b < w.heap.size) {B : Nat} {v0p : Value} {a_a : List Int} (h0 : OwnRow RInt B 3 w M a_a v0p) {a_k : Int} {r : Int × (List Int)} (h : F.laws_markIntS_r a_a a_k = some r) :
  Calls Tryd.prog 53 [v0p, (.int .i64 a_k)].toArray w fun e w' => ∃ v, e = .returned v ∧ VRep RInt w' M r.1 v ∧ ∃ M', OwnRow RInt B 3 w' M' r.2 v0p ∧ Cx (fun b => v0p.ownBlock = some b) w M w' M' := by
 have hC : Cx (fun b => v0p.ownBlock = some b) w M w M := Cx.start hO (fun b e => h0.mem b e)
 clear _hG
 refine walk (N := 19) Tryd.func53 Z Tryd.ntmps53 Z (cw_seq (cw_region (lw_op Z Z Z (ow_assign Z Z (lw_nil (ew_then (cw_seq (cw_seq (cw_region (lw_op Z Z Z (ow_assign Z Z (lw_nil (ew_then ?_)))))))))))))
 replace h := bind_some h
 obtain ⟨lr1, hlr1, h⟩ := h
 refine cw_for hlr1 (fun s a w' => ∃ (M' : Nat → Prop), Fits 19 [(0, v0p), (1, (Zv s.1)), (5, (Zv s.2.1))] a ∧ Le w M w' M' ∧ Cx (fun b => v0p.ownBlock = some b) w M w' M' ∧ OwnRow RInt B 3 w' M' s.2.2 v0p ∧ (∀ b, (Value.ownBlock v0p) = some b → w.heap.size ≤ b ∨ (fun b => v0p.ownBlock = some b) b)) ?_ ?_ ?_
 · exact fun a ha => ⟨M, ha.sub ⟨Z, Z, Z, Zt⟩, Le.refl _ _, hC, h0, (fun b e => .inr e)⟩
 ·
  rintro ⟨k1, k2, y1⟩ a w1 sr1 ⟨M1, hF1, hl1, hC1, hw1, hge1⟩ hb1 hR1
  refine cw_at (E := [(0, v0p), (1, (Zv k1)), (5, (Zv k2))]) hF1 (cw_seq (cw_seq (cw_region (lw_op Z Z Z (ow_move Z Z (lw_op Z Z Z (ow_move Z Z (lw_op Z Z Z (ow_lenOwn Z Z hw1 Tryd.underlying34 (lw_op Z Z Z (ow_lss Z Z Z fun bb1 hbb1 => lw_nil (ew_then ?_))))))))))))
  replace hb1 := cond_some hb1
  rcases hb1 with ⟨hc1, hb1⟩ | ⟨hc1, hb1⟩
  ·
   obtain rfl := hbb1.trans hc1
   refine cw_true Z (cw_skip (ew_then (cw_seq (cw_block (cw_seq (cw_region (lw_op Z Z Z (ow_move Z Z (lw_op Z Z Z (ow_move Z Z (lw_op Z Z Z (ow_move Z Z ?_))))))))))))
   replace hb1 := bind_some hb1
   obtain ⟨x1, hx1, hb1⟩ := hb1
   exact lw_op Z Z Z (ow_indexRow (R := RInt) Z Z Z hw1 Tryd.underlying34 (Tryd.sizeOf3 _) hx1 (lw_op0 Z Z (ow_storeElX (X := (fun b => v0p.ownBlock = some b)) (R := RInt) (S := RInt) Z Z Z Z hw1 (orow_blk hw1 hx1) hx1 (FldSet.whole RInt) (Tryd.sizeOf3 _) (vint _) hge1 hC1 fun w2 ho1 hb2 hl2 hC2 => lw_nil (ew_then (cw_region (lw_op Z Z Z (ow_move Z Z (lw_op Z Z Z (ow_add Z Z Z (lw_op Z Z Z (ow_assign Z Z (lw_nil (ew_blockN (ew_then (cw_region (lw_op Z Z Z (ow_move Z Z (lw_op Z Z Z (ow_add Z Z Z (lw_op Z Z Z (ow_assign Z Z (lw_nil (ew_nxt ((W (k1 + 1)), (W (k2 + 1)), (List.set y1 (k2 : Int).toNat k1)) hb1 fun a ha => ⟨M1, (ha.sub ⟨Z, Z, Z, Zt⟩), (hl1.trans hl2), hC2, ho1, hge1⟩)))))))))))))))))))))))
  ·
   obtain rfl := hbb1.trans hc1
   exact cw_false Z (cw_exit (ew_thenX (ew_thenX (ew_blockX (ew_brk (k1, k2, y1) hb1 fun a ha => ⟨M1, (ha.sub ⟨Z, Z, Z, Zt⟩), hl1, hC1, hw1, hge1⟩)))))
 ·
  rintro ⟨k3, k4, y2⟩ a w3 hlr2 ⟨M2, hF2, hl3, hC3, hw2, hge2⟩
  subst hlr2
  refine ew_at (E := [(0, v0p), (1, (Zv k3)), (5, (Zv k4))]) hF2 (ew_then (cw_seq (cw_region (lw_op Z Z Z (ow_move Z Z (lw_op Z Z Z (ow_assign Z Z (lw_nil (ew_then (cw_ret ?_))))))))))
  obtain rfl := sj h
  exact ew_ret (res1 Z (.tmp Z)) ⟨_, Z, (vint _), M2, hw2, hC3⟩

theorem w_laws_heldIntS {w : World} {M : Nat → Prop} (_hG : ARep (RArr 4 RShape) w M shapes ⟨0, 0, none⟩) (hO : ∀ b, M b → b < w.heap.size) {v0p : Value} {a_a : List Int} (h0 : VRep (RSlice RInt) w M a_a v0p) {a_k : Int} {r : Int} (h : F.laws_heldIntS a_a a_k = some r) :
  Calls Tryd.prog 54 [v0p, (.int .i64 a_k)].toArray w fun e w' => ∃ v, e = .returned v ∧ VRep RInt w' M r v ∧ BX No w w' := by
 have hC : Cx No w M w M := Cx.start hO (fun _ e => e.elim)
 clear _hG
 refine walk (N := 21) Tryd.func54 Z Tryd.ntmps54 Z (cw_seq (cw_region (lw_op Z Z Z (ow_assign Z Z (lw_nil (ew_then (cw_seq (cw_seq (cw_region (lw_op Z Z Z (ow_assign Z Z (lw_nil (ew_then ?_)))))))))))))
 replace h := bind_some h
 obtain ⟨lr1, hlr1, h⟩ := h
 refine cw_for hlr1 (fun s a w' => ∃ (M' : Nat → Prop), Fits 21 [(0, v0p), (1, (Zv s.1)), (5, (Zv s.2))] a ∧ Le w M w' M' ∧ Cx No w M w' M') ?_ ?_ ?_
 · exact fun a ha => ⟨M, ha.sub ⟨Z, Z, Z, Zt⟩, Le.refl _ _, hC⟩
 ·
  rintro ⟨k1, k2⟩ a w1 sr1 ⟨M1, hF1, hl1, hC1⟩ hb1 hR1
  refine cw_at (E := [(0, v0p), (1, (Zv k1)), (5, (Zv k2))]) hF1 (cw_seq (cw_seq (cw_region (lw_op Z Z Z (ow_move Z Z (lw_op Z Z Z (ow_move Z Z (lw_op Z Z Z (ow_len Z Z (VRep.mono hl1 h0) Tryd.underlying34 Z (lw_op Z Z Z (ow_lss Z Z Z fun bb1 hbb1 => lw_nil (ew_then ?_))))))))))))
  replace hb1 := cond_some hb1
  rcases hb1 with ⟨hc1, hb1⟩ | ⟨hc1, hb1⟩
  ·
   obtain rfl := hbb1.trans hc1
   refine cw_true Z (cw_skip (ew_then (cw_seq (cw_block (cw_seq (cw_seq (cw_region (lw_op Z Z Z (ow_move Z Z (lw_op Z Z Z (ow_move Z Z ?_)))))))))))
   replace hb1 := bind_some hb1
   obtain ⟨x1, hx1, hb1⟩ := hb1
   refine lw_op Z Z Z (ow_indexSlice (R := RInt) Z Z Z (VRep.mono hl1 h0) Tryd.underlying34 (Tryd.sizeOf3 _) hx1 fun p1 hp1 => lw_op Z Z Z (ow_load (R := RInt) Z Z hp1 (Tryd.sizeOf3 _) (Tryd.isAgg3 _) fun v3 hv3 => ?_))
   obtain rfl := vint_eq hv3
   refine lw_op Z Z Z (ow_move Z Z (lw_op Z Z Z (ow_neqI Z Z Z fun bb2 hbb2 => lw_nil (ew_then ?_))))
   replace hb1 := cond_some hb1
   rcases hb1 with ⟨hc2, hb1⟩ | ⟨hc2, hb1⟩
   ·
    obtain rfl := hbb2.trans hc2
    refine cw_true Z (cw_seq (cw_region (lw_op Z Z Z (ow_assign Z Z (lw_nil (ew_then (cw_ret (ew_thenR (ew_blockR (ew_thenR (ew_thenR (ew_blockR (ew_brkR (ew_thenR ?_))))))))))))))
    have e1 := hR1 _ (sj hb1).symm
    subst e1
    obtain rfl := sj h
    exact ew_ret (res1 Z (.tmp Z)) ⟨_, Z, ((vint _)), hC1.bx⟩
   ·
    obtain rfl := hbb2.trans hc2
    exact cw_false Z (cw_skip (ew_then (cw_region (lw_op Z Z Z (ow_move Z Z (lw_op Z Z Z (ow_add Z Z Z (lw_op Z Z Z (ow_assign Z Z (lw_nil (ew_blockN (ew_then (cw_region (lw_op Z Z Z (ow_move Z Z (lw_op Z Z Z (ow_add Z Z Z (lw_op Z Z Z (ow_assign Z Z (lw_nil (ew_nxt ((W (k1 + 1)), (W (k2 + 1))) hb1 fun a ha => ⟨M1, (ha.sub ⟨Z, Z, Z, Zt⟩), hl1, hC1⟩)))))))))))))))))))))
  ·
   obtain rfl := hbb1.trans hc1
   exact cw_false Z (cw_exit (ew_thenX (ew_thenX (ew_blockX (ew_brk (k1, k2) hb1 fun a ha => ⟨M1, (ha.sub ⟨Z, Z, Z, Zt⟩), hl1, hC1⟩)))))
 ·
  rintro ⟨k3, k4⟩ a w2 hlr2 ⟨M2, hF2, hl2, hC2⟩
  subst hlr2
  refine ew_at (E := [(0, v0p), (1, (Zv k3)), (5, (Zv k4))]) hF2 (ew_then (cw_seq (cw_region (lw_op Z Z Z (ow_move Z Z (lw_op Z Z Z (ow_assign Z Z (lw_nil (ew_then (cw_ret ?_))))))))))
  obtain rfl := sj h
  exact ew_ret (res1 Z (.tmp Z)) ⟨_, Z, ((vint _)), hC2.bx⟩

theorem w_laws_FnExactCallsOf {w : World} {M : Nat → Prop} (hG : ARep (RArr 4 RShape) w M shapes ⟨0, 0, none⟩) (hO : ∀ b, M b → b < w.heap.size) {v0p : Value} {a_aS : Ruleset} (h0 : VRep RRuleset w M a_aS v0p) {a_aChain : Int} {r : Bool} (h : F.laws_FnExactCallsOf a_aS a_aChain = some r) :
  Calls Tryd.prog 9 [v0p, (.int .i64 a_aChain)].toArray w fun e w' => ∃ v, e = .returned v ∧ VRep RBool w' M r v ∧ BX No w w' := by
 have hC : Cx No w M w M := Cx.start hO (fun _ e => e.elim)
 refine walk (N := 74) Tryd.func9 Z Tryd.ntmps9 Z (cw_seq (cw_region (lw_op Z Z Z (ow_box (R := RRuleset) Z Z h0 hC fun p1 w1 hp1 hb1 hl1 hC1 => lw_op Z Z Z (ow_assign Z Z (lw_nil (ew_then (cw_seq (cw_region (lw_op Z Z Z (ow_assign Z Z (lw_nil (ew_then (cw_seq (cw_region (lw_op Z Z Z (ow_load (R := RRuleset) Z Z hp1 (Tryd.sizeOf75 _) (Tryd.isAgg75 _) fun v1 hv1 => lw_op Z Z Z (ow_move Z Z ?_))))))))))))))))))
 replace h := bind_some h
 obtain ⟨x1, hx1, h⟩ := h
 refine lw_op Z Z Z (ow_call Z Z Tryd.call46 (w_laws_szRuleset (hG.mono hl1) hC1.old hv1 hx1) fun v2 w2 hv2 => ?_)
 obtain ⟨hv2, hb2⟩ := hv2
 have hl2 := Le.no M hb2
 have hC2 := hC1.no hb2
 obtain rfl := vint_eq hv2
 refine lw_op Z Z Z (ow_assign Z Z (lw_nil (ew_then (cw_seq (cw_seq (cw_region (lw_op Z Z Z (ow_move Z Z (lw_op Z Z Z (ow_lss Z Z Z fun bb1 hbb1 => lw_nil (ew_then ?_)))))))))))
 replace h := cond_some h
 rcases h with ⟨hc1, h⟩ | ⟨hc1, h⟩
 ·
  obtain rfl := hbb1.trans hc1
  refine cw_true Z (cw_seq (cw_region (lw_op Z Z Z (ow_assign Z Z (lw_nil (ew_then (cw_ret (ew_thenR ?_))))))))
  obtain rfl := sj h
  exact ew_ret (res1 Z (.tmp Z)) ⟨_, Z, ((vbool _)), hC2.bx⟩
 ·
  obtain rfl := hbb1.trans hc1
  refine cw_false Z (cw_skip (ew_then (cw_seq (cw_region (lw_op Z Z Z (ow_load (R := RRuleset) Z Z (ARep.mono hl2 hp1) (Tryd.sizeOf75 _) (Tryd.isAgg75 _) fun v3 hv3 => ?_))))))
  replace h := bind_some h
  obtain ⟨x2, hx2, h⟩ := h
  refine lw_op Z Z Z (ow_call Z Z Tryd.call48 (wu_laws_toRuleset (hG.mono (hl1.trans hl2)) hC2.old (Y := (fun b => w2.heap.size ≤ b)) (fun _ hb => hb) hv3 hx2) fun v4 w3 hv4 => ?_)
  obtain ⟨hv4, hb3⟩ := hv4
  have hl3 := Le.no M hb3
  have hC3 := hC2.no hb3
  have hw1 := Fg.vrep fg_Ruleset hv4
  refine lw_op Z Z Z (ow_move Z Z ?_)
  replace h := bind_some h
  obtain ⟨x3, hx3, h⟩ := h
  have lz1 := ((hl1.trans hl2).trans hl3)
  refine lw_op Z Z Z (ow_call Z Z Tryd.call47 (w_spec_CallsOf (hG.mono lz1) hC3.old hw1 hx3) fun v5 w4 hv5 => ?_)
  obtain ⟨hv5, hb4⟩ := hv5
  have hl4 := Le.no M hb4
  have hC4 := hC3.no hb4
  refine lw_op Z Z Z (ow_assign Z Z (lw_nil (ew_then (cw_seq (cw_region ?_)))))
  have lz2 := ((hl2.trans hl3).trans hl4)
  refine lw_op Z Z Z (ow_load (R := RRuleset) Z Z (ARep.mono lz2 hp1) (Tryd.sizeOf75 _) (Tryd.isAgg75 _) fun v6 hv6 => lw_op Z Z Z (ow_call Z Z Tryd.call48 (wu_laws_toRuleset (hG.mono (lz1.trans hl4)) hC4.old (Y := (fun b => w4.heap.size ≤ b)) (fun _ hb => hb) hv6 hx2) fun v7 w5 hv7 => ?_))
  obtain ⟨hv7, hb5⟩ := hv7
  have hl5 := Le.no M hb5
  have hC5 := hC4.no hb5
  have hw2 := Fg.vrep fg_Ruleset hv7
  have hw3 := Wd.vrep wd_Ruleset hv7
  have hu1 := UFz.yf (fun b => w4.heap.size ≤ b) w5
  refine lw_op Z Z Z (ow_alloc Z (Tryd.zeroValue25 _) hC5 fun g1 w6 hg1 hg2 ho1 hb6 hl6 hC6 => ?_)
  have hy1 := fun (h : (YF (fun b => w4.heap.size ≤ b) w5) g1) => Nat.lt_irrefl _ (Nat.lt_of_lt_of_le (hu1 _ h).1 hg1)
  have hw4 := VRep.mono (Le.no _ hb6) hw3
  have hu2 := UFz.no hu1 hb6
  have hm1 : (Add g1 M) g1 := .inl Z
  obtain ⟨A1, c1, rfl, hw5⟩ := open_Ruleset hw2
  refine lw_op0 Z Z (ow_store (X := No) (us := [(.slice A1 x2.Chains.length c1), (.bool x2.Accept)]) (cs' := #[(.slice A1 x2.Chains.length c1), (.bool x2.Accept)]) Z Z Z Z ho1 (Tryd.sizeOf25 _) Z Z Z Z hm1 (.inl hg2) Z hC6 fun w7 ho2 hb7 hl7 hC7 => ?_)
  have hw6 := VRep.other hw4 hb7 (fun b e h => hy1 ((show b = g1 from e) ▸ h))
  have hu3 := UFz.other hu2 hb7 (fun b e h => hy1 ((show b = g1 from e) ▸ h))
  refine lw_nil (ew_then (cw_seq (cw_region (lw_op Z Z Z (ow_loadOwnA Z Z Z ho2 (Tryd.isAgg25 _) (Tryd.sizeOf25 _) Z ?_)))))
  have hw7 : VRep RRuleset w7 (Add g1 M) ({ Chains := x2.Chains, Accept := x2.Accept } : Ruleset) (.agg #[(.slice A1 x2.Chains.length c1), (.bool x2.Accept)]) := shut_Ruleset (VRep.mono (hl6.trans hl7) hw5)
  refine lw_op Z Z Z (ow_move Z Z ?_)
  replace h := bind_some h
  obtain ⟨x4, hx4, h⟩ := h
  have lz3 := ((((lz1.trans hl4).trans hl5).trans hl6).trans hl7)
  refine lw_op Z Z Z (ow_call Z Z Tryd.call49 (wo_impl_CallsOf (hG.mono lz3) hC7.old hw7 hx4) fun v8 w8 hv8 => ?_)
  obtain ⟨⟨M1, hr1, hk1⟩, hb8⟩ := hv8
  have hy2 := fun b (e : (Value.ownBlock v8) = some b) (h : (YF (fun b => w4.heap.size ≤ b) w5) b) => Nat.lt_irrefl _ (Nat.lt_of_lt_of_le (hu3 _ h).1 (hr1.block e).1)
  replace hr1 := hr1.base hC7.bx.size
  have hl8 := hk1.le
  have hC8 := hC7.trans hk1
  have hw8 := VRep.mono (Le.no _ hb8) hw6
  have hu4 := UFz.no hu3 hb8
  have ho3 := ho2.no hb8
  refine lw_op Z Z Z (ow_assign Z Z (lw_nil (ew_then (cw_seq (cw_seq (cw_region (lw_op Z Z Z (ow_move Z Z (lw_op Z Z Z (ow_move Z Z ?_))))))))))
  have lz4 := (((hl5.trans hl6).trans hl7).trans hl8)
  replace h := bind_some h
  obtain ⟨x5, hx5, h⟩ := h
  refine lw_op Z Z Z (ow_call Z Z Tryd.call50 (w_laws_eqIntS (ARep.mono (Le.del w8 M1 v8) (hG.mono (lz3.trans hl8))) (hr1.cxDel hC8 (fun _ e => e.elim) hO).old hr1.freezeDel (VRep.mono (Le.del w8 M1 v8) (VRep.mono lz4 hv5)) hx5) fun v9 w9 hv9 => ?_)
  obtain ⟨hv9, hb9⟩ := hv9
  have hl9 := Le.no M1 hb9
  have hC9 := hC8.no hb9
  have hw9 := VRep.mono (Le.no _ hb9) hw8
  have hu5 := UFz.no hu4 hb9
  have ho4 := ho3.no hb9
  have hr2 := hr1.no hb9
  obtain rfl := vbool_eq hv9
  refine lw_op Z Z Z (ow_not Z Z (lw_nil (ew_then ?_)))
  replace h := cond_some h
  rcases h with ⟨hc2, h⟩ | ⟨hc2, h⟩
  ·
   subst hc2
   refine cw_false Z (cw_skip (ew_then (cw_seq (cw_seq ?_))))
   have lz5 := ((lz3.trans hl8).trans hl9)
   have lz6 := (((((lz2.trans hl5).trans hl6).trans hl7).trans hl8).trans hl9)
   have lz10 := (((hl6.trans hl7).trans hl8).trans hl9)
   refine cw_sub (E' := [(1, (Zv a_aChain)), (2, (.pointer (some p1))), (4, (.bool false)), (6, v5), (7, (Zw g1 0)), (8, v8)]) ⟨Z, Z, Z, Z, Z, Z, Zt⟩ (cw_drawQ 3 [PV RRuleset M1 ({ Chains := x2.Chains, Accept := x2.Accept } : Ruleset), PV RRuleset M1 a_aS, PV RRuleset M1 x2] (by kernel_rfl) Z (by kernel_rfl) ⟨PV.mono _ _ _, PV.mono _ _ _, PV.mono _ _ _, Zt⟩ ⟨?_, ?_, ?_, Zt⟩ ?_)
   ·
    intro w11 D hS1 hd1
    have hl11 := Le.no M1 hS1
    have ho6 := ho4.no hS1
    refine dg_sub (E' := [(7, (Zw g1 0))]) ⟨Z, Zt⟩ (dg_plain Z (ow_loadOwnA Z Z Z ho6 (Tryd.isAgg25 _) (Tryd.sizeOf25 _) Z ?_))
    have hw14 : VRep RRuleset w11 M1 ({ Chains := x2.Chains, Accept := x2.Accept } : Ruleset) (.agg #[(.slice A1 x2.Chains.length c1), (.bool x2.Accept)]) := shut_Ruleset (VRep.mono (lz10.trans hl11) hw5)
    exact ⟨BX.refl _ _, hw14⟩
   ·
    intro w12 D hS2 hd2
    have hl12 := Le.no M1 hS2
    exact dg_sub (E' := [(2, (.pointer (some p1)))]) ⟨Z, Zt⟩ (dg_plain Z (ow_load (R := RRuleset) Z Z (ARep.mono (lz6.trans hl12) hp1) (Tryd.sizeOf75 _) (Tryd.isAgg75 _) fun v12 hv12 => ⟨BX.refl _ _, hv12⟩))
   ·
    intro w13 D hS3 hd3
    have hl13 := Le.no M1 hS3
    have hC13 := hC9.no hS3
    have d1 : PV RRuleset M1 a_aS (D 1) w13 := dpA hd3 1 Z
    generalize hq1 : (D 1) = v13 at d1
    refine dg_sub (E' := [(32, v13)]) ⟨congrArg some hq1, Zt⟩ (dg_plain Z (ow_call Z Z Tryd.call48 (wu_laws_toRuleset (hG.mono (lz5.trans hl13)) hC13.old (Y := (fun b => w13.heap.size ≤ b)) (fun _ hb => hb) d1 hx2) fun v14 w14 hv14 => ?_))
    obtain ⟨hv14, hb11⟩ := hv14
    have hw18 := Fg.vrep fg_Ruleset hv14
    exact ⟨hb11, hw18⟩
   ·
    intro w15 D hS4 hd4
    have d2 : PV RRuleset M1 ({ Chains := x2.Chains, Accept := x2.Accept } : Ruleset) (D 0) w15 := dpA hd4 0 Z
    have d4 : PV RRuleset M1 x2 (D 2) w15 := dpA hd4 2 Z
    have hl15 := Le.no M1 hS4
    have hC15 := hC9.no hS4
    have hw19 := VRep.mono (Le.no _ hS4) hw9
    have hu11 := UFz.no hu5 hS4
    have ho10 := ho4.no hS4
    have hr8 := hr2.no hS4
    generalize hq2 : (D 0) = v15 at d2
    generalize hq3 : (D 2) = v16 at d4
    refine lw_sub (E' := [(31, v15), (33, v16), (1, (Zv a_aChain)), (2, (.pointer (some p1))), (4, (.bool false)), (6, v5), (7, (Zw g1 0)), (8, v8)]) ⟨congrArg some hq2, congrArg some hq3, Z, Z, Z, Z, Z, Z, Zt⟩ ?_
    replace h := bind_some h
    obtain ⟨x6, hx6, h⟩ := h
    refine lw_op Z Z Z (ow_call Z Z Tryd.call51 (w_laws_eqRuleset (hG.mono (lz5.trans hl15)) hC15.old d2 d4 hx6) fun v17 w16 hv17 => ?_)
    obtain ⟨hv17, hb12⟩ := hv17
    have hl16 := Le.no M1 hb12
    have hC16 := hC15.no hb12
    have hw20 := VRep.mono (Le.no _ hb12) hw19
    have hu12 := UFz.no hu11 hb12
    have ho11 := ho10.no hb12
    have hr9 := hr8.no hb12
    obtain rfl := vbool_eq hv17
    refine lw_op Z Z Z (ow_not Z Z (lw_nil (ew_then ?_)))
    replace h := cond_some h
    rcases h with ⟨hc3, h⟩ | ⟨hc3, h⟩
    ·
     subst hc3
     refine cw_false Z (cw_skip (ew_then (cw_seq (cw_region (lw_op Z Z Z (ow_assign Z Z (lw_nil (ew_then (cw_seq (cw_region (lw_op Z Z Z (ow_loadOwnA Z Z Z ho11 (Tryd.isAgg25 _) (Tryd.sizeOf25 _) Z (lw_op Z Z Z (ow_move Z Z ?_))))))))))))))
     replace h := bind_some h
     obtain ⟨x7, hx7, h⟩ := h
     refine lw_op Z Z Z (ow_call Z Z Tryd.call52 (wm_laws_markRuleset hu12 hw20 hx7) fun v18 w17 hv18 => ?_)
     obtain ⟨rfl, hmk1⟩ := hv18
     have hl17 := Le.mark ((((((hl5.trans hl6).trans hl7).trans hl8).trans hl9).trans hl15).trans hl16) hmk1.bx (fun b h => h.1)
     have hC17 := hC16.mark hmk1.bx hu12 (fun b h => Nat.le_trans hC4.bx.size h.1)
     have hr10 := hr9.mark (fun _ _ _ _ _ _ h => h) hmk1.bx hy2
     refine lw_op Z Z Z (ow_assign Z Z (lw_nil (ew_then (cw_seq (cw_seq (cw_region (lw_op Z Z Z (ow_move Z Z (lw_op Z Z Z (ow_lss Z Z Z fun bb2 hbb2 => lw_op Z Z Z (ow_move Z Z ?_)))))))))))
     replace h := cond_some h
     rcases h with ⟨hc4, h⟩ | ⟨hc4, h⟩
     ·
      obtain rfl := hbb2.trans hc4
      refine lw_off Z Z Z Z Z Z (lw_off Z Z Z Z Z Z (lw_off Z Z Z Z Z Z (lw_off Z Z Z Z Z Z (lw_op Z Z Z (ow_pickT Z Z Z (lw_nil (ew_then (cw_true Z (cw_seq (cw_region (lw_op Z Z Z (ow_assign Z Z (lw_nil (ew_then (cw_ret (ew_thenR ?_))))))))))))))))
      obtain rfl := sj h
      exact ew_ret (res1 Z (.tmp Z)) ⟨_, Z, ((vbool _)), hC17.bx⟩
     ·
      obtain rfl := hbb2.trans hc4
      refine lw_on Z Z Z Z Z Z (ow_move Z Z (lw_on Z Z Z Z Z Z (ow_move Z Z ?_)))
      have lz13 := ((((hl1.trans hl2).trans hl3).trans hl4).trans hl17)
      refine lw_on Z Z Z Z Z Z (ow_call Z Z Tryd.call50 (w_laws_eqIntS (ARep.mono (Le.del w17 (MY M1 (YF (fun b => w4.heap.size ≤ b) w5)) v8) (hG.mono lz13)) (hr10.cxDel hC17 (fun _ e => e.elim) hO).old hr10.freezeDel (VRep.mono (Le.del w17 (MY M1 (YF (fun b => w4.heap.size ≤ b) w5)) v8) (VRep.mono hl17 hv5)) hx5) fun v19 w18 hv19 => ?_)
      obtain ⟨hv19, hb13⟩ := hv19
      have hl18 := Le.no (MY M1 (YF (fun b => w4.heap.size ≤ b) w5)) hb13
      have hC18 := hC17.no hb13
      have hr11 := hr10.no hb13
      obtain rfl := vbool_eq hv19
      refine lw_on Z Z Z Z Z Z (ow_not Z Z (lw_op Z Z Z (ow_pickF Z Z Z (lw_nil (ew_then (cw_false Z (cw_skip (ew_then (cw_seq (cw_region (lw_op Z Z Z (ow_assign Z Z (lw_nil (ew_then (cw_seq (cw_region (lw_op Z Z Z (ow_move Z Z (lw_op Z Z Z (ow_move Z Z ?_))))))))))))))))))))
      replace h := bind_some h
      obtain ⟨x8, hx8, h⟩ := h
      refine lw_op Z Z Z (ow_call Z Z Tryd.call53 (wr_laws_markIntS (hG.mono (lz13.trans hl18)) hC18.old hr11 hx8) fun v20 w19 hv20 => ?_)
      obtain ⟨hv20, M2, hr12, hk2⟩ := hv20
      obtain rfl := vint_eq hv20
      have hl19 := hk2.leY (fun b e => hr11.mem b e)
      have hC19 := hC18.trans2 hk2 (fun b e => .inl (hr11.block e).1)
      refine lw_op Z Z Z (ow_assign Z Z (lw_nil (ew_then (cw_seq (cw_region (lw_op Z Z Z (ow_assign Z Z (lw_nil (ew_then (cw_seq (cw_region (lw_op Z Z Z (ow_move Z Z (lw_op Z Z Z (ow_move Z Z ?_)))))))))))))))
      replace h := bind_some h
      obtain ⟨x9, hx9, h⟩ := h
      have lz14 := ((lz13.trans hl18).trans hl19)
      refine lw_op Z Z Z (ow_call Z Z Tryd.call54 (w_laws_heldIntS (ARep.mono (Le.del w19 M2 v8) (hG.mono lz14)) (hr12.cxDel hC19 (fun _ e => e.elim) hO).old hr12.freezeDel hx9) fun v21 w20 hv21 => ?_)
      obtain ⟨hv21, hb14⟩ := hv21
      have hl20 := Le.no M2 hb14
      have hC20 := hC19.no hb14
      have hr13 := hr12.no hb14
      obtain rfl := vint_eq hv21
      refine lw_op Z Z Z (ow_assign Z Z (lw_nil (ew_then (cw_seq (cw_seq (cw_region (lw_op Z Z Z (ow_move Z Z (lw_op Z Z Z (ow_lss Z Z Z fun bb3 hbb3 => lw_nil (ew_then ?_)))))))))))
      replace h := cond_some h
      rcases h with ⟨hc5, h⟩ | ⟨hc5, h⟩
      ·
       obtain rfl := hbb3.trans hc5
       refine cw_true Z (cw_seq (cw_region (lw_op Z Z Z (ow_assign Z Z (lw_nil (ew_then (cw_ret (ew_thenR ?_))))))))
       obtain rfl := sj h
       exact ew_ret (res1 Z (.tmp Z)) ⟨_, Z, ((vbool _)), hC20.bx⟩
      ·
       obtain rfl := hbb3.trans hc5
       refine cw_false Z (cw_skip (ew_then (cw_seq (cw_seq (cw_region (lw_op Z Z Z (ow_move Z Z (lw_op Z Z Z (ow_move Z Z (lw_op Z Z Z (ow_neqI Z Z Z fun bb4 hbb4 => lw_nil (ew_then ?_))))))))))))
       replace h := cond_some h
       rcases h with ⟨hc6, h⟩ | ⟨hc6, h⟩
       ·
        obtain rfl := hbb4.trans hc6
        refine cw_true Z (cw_seq (cw_region (lw_op Z Z Z (ow_assign Z Z (lw_nil (ew_then (cw_ret (ew_thenR ?_))))))))
        obtain rfl := sj h
        exact ew_ret (res1 Z (.tmp Z)) ⟨_, Z, ((vbool _)), hC20.bx⟩
       ·
        obtain rfl := hbb4.trans hc6
        refine cw_false Z (cw_skip (ew_then (cw_seq (cw_region ?_))))
        have lz15 := ((((((hl2.trans hl3).trans hl4).trans hl17).trans hl18).trans hl19).trans hl20)
        refine lw_op Z Z Z (ow_load (R := RRuleset) Z Z (ARep.mono lz15 hp1) (Tryd.sizeOf75 _) (Tryd.isAgg75 _) fun v22 hv22 => lw_op Z Z Z (ow_call Z Z Tryd.call48 (wu_laws_toRuleset (hG.mono (lz14.trans hl20)) hC20.old (Y := (fun b => w20.heap.size ≤ b)) (fun _ hb => hb) hv22 hx2) fun v23 w21 hv23 => ?_))
        obtain ⟨hv23, hb15⟩ := hv23
        have hl21 := Le.no M2 hb15
        have hC21 := hC20.no hb15
        have hr14 := hr13.no hb15
        have hw22 := Fg.vrep fg_Ruleset hv23
        refine lw_op Z Z Z (ow_move Z Z ?_)
        replace h := bind_some h
        obtain ⟨x10, hx10, h⟩ := h
        have lz16 := ((lz14.trans hl20).trans hl21)
        refine lw_op Z Z Z (ow_call Z Z Tryd.call49 (w_impl_CallsOf (hG.mono lz16) hC21.old hw22 hx10) fun v24 w22 hv24 => ?_)
        obtain ⟨hv24, hb16⟩ := hv24
        have hl22 := Le.no M2 hb16
        have hC22 := hC21.no hb16
        have hr15 := hr14.no hb16
        refine lw_op Z Z Z (ow_assign Z Z (lw_nil (ew_then (cw_seq (cw_seq (cw_region (lw_op Z Z Z (ow_move Z Z (lw_op Z Z Z (ow_move Z Z ?_))))))))))
        have lz17 := (((((hl17.trans hl18).trans hl19).trans hl20).trans hl21).trans hl22)
        replace h := bind_some h
        obtain ⟨x11, hx11, h⟩ := h
        refine lw_op Z Z Z (ow_call Z Z Tryd.call50 (w_laws_eqIntS (hG.mono (lz16.trans hl22)) hC22.old hv24 (VRep.mono lz17 hv5) hx11) fun v25 w23 hv25 => ?_)
        obtain ⟨hv25, hb17⟩ := hv25
        have hl23 := Le.no M2 hb17
        have hC23 := hC22.no hb17
        have hr16 := hr15.no hb17
        obtain rfl := vbool_eq hv25
        refine lw_op Z Z Z (ow_not Z Z (lw_nil (ew_then ?_)))
        replace h := cond_some h
        rcases h with ⟨hc7, h⟩ | ⟨hc7, h⟩
        ·
         subst hc7
         refine cw_false Z (cw_skip (ew_then (cw_seq (cw_region (lw_op Z Z Z (ow_assign Z Z (lw_nil (ew_then (cw_seq (cw_region (lw_op Z Z Z (ow_move Z Z (lw_op Z Z Z (ow_move Z Z ?_))))))))))))))
         have lz18 := ((lz16.trans hl22).trans hl23)
         refine lw_op Z Z Z (ow_call Z Z Tryd.call54 (w_laws_heldIntS (ARep.mono (Le.del w23 M2 v8) (hG.mono lz18)) (hr16.cxDel hC23 (fun _ e => e.elim) hO).old hr16.freezeDel hx9) fun v26 w24 hv26 => ?_)
         obtain ⟨hv26, hb18⟩ := hv26
         have hC24 := hC23.no hb18
         obtain rfl := vint_eq hv26
         refine lw_op Z Z Z (ow_assign Z Z (lw_nil (ew_then (cw_seq (cw_seq (cw_region (lw_op Z Z Z (ow_move Z Z (lw_op Z Z Z (ow_lss Z Z Z fun bb5 hbb5 => ?_))))))))))
         obtain rfl := hbb5.trans hc5
         refine lw_nil (ew_then (cw_false Z (cw_skip (ew_then (cw_seq (cw_seq (cw_region (lw_op Z Z Z (ow_move Z Z (lw_op Z Z Z (ow_move Z Z (lw_op Z Z Z (ow_neqI Z Z Z fun bb6 hbb6 => ?_)))))))))))))
         obtain rfl := hbb6.trans hc6
         refine lw_nil (ew_then (cw_false Z (cw_skip (ew_then (cw_seq (cw_region (lw_op Z Z Z (ow_assign Z Z (lw_nil (ew_then (cw_ret ?_)))))))))))
         obtain rfl := sj h
         exact ew_ret (res1 Z (.tmp Z)) ⟨_, Z, ((vbool _)), hC24.bx⟩
        ·
         subst hc7
         refine cw_true Z (cw_seq (cw_region (lw_op Z Z Z (ow_assign Z Z (lw_nil (ew_then (cw_ret (ew_thenR ?_))))))))
         obtain rfl := sj h
         exact ew_ret (res1 Z (.tmp Z)) ⟨_, Z, ((vbool _)), hC23.bx⟩
    ·
     subst hc3
     refine cw_true Z (cw_seq (cw_region (lw_op Z Z Z (ow_assign Z Z (lw_nil (ew_then (cw_ret (ew_thenR ?_))))))))
     obtain rfl := sj h
     exact ew_ret (res1 Z (.tmp Z)) ⟨_, Z, ((vbool _)), hC16.bx⟩
  ·
   subst hc2
   refine cw_true Z (cw_seq (cw_region (lw_op Z Z Z (ow_assign Z Z (lw_nil (ew_then (cw_ret (ew_thenR ?_))))))))
   obtain rfl := sj h
   exact ew_ret (res1 Z (.tmp Z)) ⟨_, Z, ((vbool _)), hC9.bx⟩


end Go.PF
