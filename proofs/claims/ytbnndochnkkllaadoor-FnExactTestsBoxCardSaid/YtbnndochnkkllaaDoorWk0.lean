/- The walks; no condition. -/
import Derived.Test.YtbnndochnkkllaaDoorProg
import Derived.Test.YtbnndochnkkllaaDoorFun
import Derived.Test.YtbnndochnkkllaaDoorPFMark
import Derived.Test.YtbnndochnkkllaaDoorPFWild
import Derived.Test.YtbnndochnkkllaaDoorPFTree
set_option maxRecDepth 100000
set_option maxHeartbeats 4000000
namespace Go.PF
open Go Go.RowKit Go.Proofs

theorem info120 : ∃ i, Tryd.prog.info? 120 = some i ∧ i.zero = some (.agg #[.int .i64 0, .int .i64 0]) ∧ i.size = 2 ∧ i.bytes = 16 := info_parts (by kernel_rfl)
theorem info121 : ∃ i, Tryd.prog.info? 121 = some i ∧ i.zero = some (.slice none 0 0) ∧ i.size = 1 ∧ i.bytes = 24 := info_parts (by kernel_rfl)
theorem info128 : ∃ i, Tryd.prog.info? 128 = some i ∧ i.zero = some (.agg #[.int .i64 0, .int .i64 0, .int .i64 0, .bool false]) ∧ i.size = 4 ∧ i.bytes = 32 := info_parts (by kernel_rfl)
def actV : Act_ → Value
  | .deciding b => .iface 229 (.agg #[.bool b])
  | .calling c => .iface 231 (.agg #[.int .i64 c])
  | .returning => .iface 233 (.agg #[])
  | .passing => .iface 234 (.agg #[])
theorem w_laws_eqTest {w : World} {M : Nat → Prop} (_hG : ARep (RArr 4 RShape) w M shapes ⟨0, 0, none⟩) (hO : ∀ b, M b → b < w.heap.size) {v0p : Value} {a_a : Test} (h0 : VRep RTest w M a_a v0p) {v1p : Value} {a_b : Test} (h1 : VRep RTest w M a_b v1p) {r : Bool} (h : F.laws_eqTest a_a a_b = some r) :
  Calls Tryd.prog 93 [v0p, v1p].toArray w fun e w' => ∃ v, e = .returned v ∧ VRep RBool w' M r v ∧ BX No w w' := by
 have hC : Cx No w M w M := Cx.start hO (fun _ e => e.elim)
 clear _hG
 refine walk (N := 25) Tryd.func93 Z Tryd.ntmps93 Z (cw_seq (cw_region (lw_op Z Z Z (ow_box (R := RTest) Z Z h0 hC fun p1 w1 hp1 hb1 hl1 hC1 => lw_op Z Z Z (ow_box (R := RTest) Z Z (VRep.mono hl1 h1) hC1 fun p2 w2 hp2 hb2 hl2 hC2 => lw_op Z Z Z (ow_assign Z Z (lw_nil (ew_then (cw_seq (cw_seq (cw_region (lw_op Z Z Z (ow_fieldAddr Z Z Tryd.underlying128 Z (Tryd.sizeOf3 _) (lw_op Z Z Z (ow_load (R := RInt) Z Z (ARep.mono hl2 (hp1.fld fld_Test_Field)) (Tryd.sizeOf3 _) (Tryd.isAgg3 _) fun v1 hv1 => ?_)))))))))))))))
 obtain rfl := vint_eq hv1
 refine lw_op Z Z Z (ow_fieldAddr Z Z Tryd.underlying128 Z (Tryd.sizeOf3 _) (lw_op Z Z Z (ow_load (R := RInt) Z Z (hp2.fld fld_Test_Field) (Tryd.sizeOf3 _) (Tryd.isAgg3 _) fun v2 hv2 => ?_)))
 obtain rfl := vint_eq hv2
 refine lw_op Z Z Z (ow_neqI Z Z Z fun bb1 hbb1 => lw_nil (ew_then ?_))
 replace h := cond_some h
 rcases h with ⟨hc1, h⟩ | ⟨hc1, h⟩
 ·
  obtain rfl := hbb1.trans hc1
  refine cw_true Z (cw_seq (cw_region (lw_op Z Z Z (ow_assign Z Z (lw_nil (ew_then (cw_ret (ew_thenR ?_))))))))
  obtain rfl := sj h
  exact ew_ret (res1 Z (.tmp Z)) ⟨_, Z, ((vbool _)), hC2.bx⟩
 ·
  obtain rfl := hbb1.trans hc1
  refine cw_false Z (cw_skip (ew_then (cw_seq (cw_seq (cw_region (lw_op Z Z Z (ow_fieldAddr Z Z Tryd.underlying128 Z (Tryd.sizeOf3 _) (lw_op Z Z Z (ow_load (R := RInt) Z Z (ARep.mono hl2 (hp1.fld fld_Test_Lo)) (Tryd.sizeOf3 _) (Tryd.isAgg3 _) fun v3 hv3 => ?_)))))))))
  obtain rfl := vint_eq hv3
  refine lw_op Z Z Z (ow_fieldAddr Z Z Tryd.underlying128 Z (Tryd.sizeOf3 _) (lw_op Z Z Z (ow_load (R := RInt) Z Z (hp2.fld fld_Test_Lo) (Tryd.sizeOf3 _) (Tryd.isAgg3 _) fun v4 hv4 => ?_)))
  obtain rfl := vint_eq hv4
  refine lw_op Z Z Z (ow_neqI Z Z Z fun bb2 hbb2 => lw_nil (ew_then ?_))
  replace h := cond_some h
  rcases h with ⟨hc2, h⟩ | ⟨hc2, h⟩
  ·
   obtain rfl := hbb2.trans hc2
   refine cw_true Z (cw_seq (cw_region (lw_op Z Z Z (ow_assign Z Z (lw_nil (ew_then (cw_ret (ew_thenR ?_))))))))
   obtain rfl := sj h
   exact ew_ret (res1 Z (.tmp Z)) ⟨_, Z, ((vbool _)), hC2.bx⟩
  ·
   obtain rfl := hbb2.trans hc2
   refine cw_false Z (cw_skip (ew_then (cw_seq (cw_seq (cw_region (lw_op Z Z Z (ow_fieldAddr Z Z Tryd.underlying128 Z (Tryd.sizeOf3 _) (lw_op Z Z Z (ow_load (R := RInt) Z Z (ARep.mono hl2 (hp1.fld fld_Test_Hi)) (Tryd.sizeOf3 _) (Tryd.isAgg3 _) fun v5 hv5 => ?_)))))))))
   obtain rfl := vint_eq hv5
   refine lw_op Z Z Z (ow_fieldAddr Z Z Tryd.underlying128 Z (Tryd.sizeOf3 _) (lw_op Z Z Z (ow_load (R := RInt) Z Z (hp2.fld fld_Test_Hi) (Tryd.sizeOf3 _) (Tryd.isAgg3 _) fun v6 hv6 => ?_)))
   obtain rfl := vint_eq hv6
   refine lw_op Z Z Z (ow_neqI Z Z Z fun bb3 hbb3 => lw_nil (ew_then ?_))
   replace h := cond_some h
   rcases h with ⟨hc3, h⟩ | ⟨hc3, h⟩
   ·
    obtain rfl := hbb3.trans hc3
    refine cw_true Z (cw_seq (cw_region (lw_op Z Z Z (ow_assign Z Z (lw_nil (ew_then (cw_ret (ew_thenR ?_))))))))
    obtain rfl := sj h
    exact ew_ret (res1 Z (.tmp Z)) ⟨_, Z, ((vbool _)), hC2.bx⟩
   ·
    obtain rfl := hbb3.trans hc3
    refine cw_false Z (cw_skip (ew_then (cw_seq (cw_seq (cw_region (lw_op Z Z Z (ow_fieldAddr Z Z Tryd.underlying128 Z (Tryd.sizeOf4 _) (lw_op Z Z Z (ow_load (R := RBool) Z Z (ARep.mono hl2 (hp1.fld fld_Test_Not)) (Tryd.sizeOf4 _) (Tryd.isAgg4 _) fun v7 hv7 => ?_)))))))))
    obtain ⟨bb4, hbb4, rfl⟩ := vbool_ex hv7
    refine lw_op Z Z Z (ow_fieldAddr Z Z Tryd.underlying128 Z (Tryd.sizeOf4 _) (lw_op Z Z Z (ow_load (R := RBool) Z Z (hp2.fld fld_Test_Not) (Tryd.sizeOf4 _) (Tryd.isAgg4 _) fun v8 hv8 => ?_)))
    obtain ⟨bb5, hbb5, rfl⟩ := vbool_ex hv8
    refine lw_op Z Z Z (ow_neqB Z Z Z Tryd.underlying4 fun bb6 hbb6 => ?_)
    have hbb6' : bb6 = (a_a.Not != a_b.Not) := hbb6.trans (by rw [hbb4, hbb5])
    refine lw_nil (ew_then ?_)
    replace h := cond_some h
    rcases h with ⟨hc4, h⟩ | ⟨hc4, h⟩
    ·
     obtain rfl := hbb6'.trans hc4
     refine cw_true Z (cw_seq (cw_region (lw_op Z Z Z (ow_assign Z Z (lw_nil (ew_then (cw_ret (ew_thenR ?_))))))))
     obtain rfl := sj h
     exact ew_ret (res1 Z (.tmp Z)) ⟨_, Z, ((vbool _)), hC2.bx⟩
    ·
     obtain rfl := hbb6'.trans hc4
     refine cw_false Z (cw_skip (ew_then (cw_seq (cw_region (lw_op Z Z Z (ow_assign Z Z (lw_nil (ew_then (cw_ret ?_)))))))))
     obtain rfl := sj h
     exact ew_ret (res1 Z (.tmp Z)) ⟨_, Z, ((vbool _)), hC2.bx⟩

theorem w_laws_eqTestS {w : World} {M : Nat → Prop} (hG : ARep (RArr 4 RShape) w M shapes ⟨0, 0, none⟩) (hO : ∀ b, M b → b < w.heap.size) {v0p : Value} {a_a : List Test} (h0 : VRep (RSlice RTest) w M a_a v0p) {v1p : Value} {a_b : List Test} (h1 : VRep (RSlice RTest) w M a_b v1p) {r : Bool} (h : F.laws_eqTestS a_a a_b = some r) :
  Calls Tryd.prog 25 [v0p, v1p].toArray w fun e w' => ∃ v, e = .returned v ∧ VRep RBool w' M r v ∧ BX No w w' := by
 have hC : Cx No w M w M := Cx.start hO (fun _ e => e.elim)
 refine walk (N := 27) Tryd.func25 Z Tryd.ntmps25 Z (cw_seq (cw_region (lw_op Z Z Z (ow_assign Z Z (lw_nil (ew_then (cw_seq (cw_seq (cw_region (lw_op Z Z Z (ow_move Z Z (lw_op Z Z Z (ow_len Z Z h0 Tryd.underlying36 Z (lw_op Z Z Z (ow_move Z Z (lw_op Z Z Z (ow_len Z Z h1 Tryd.underlying36 Z (lw_op Z Z Z (ow_neqI Z Z Z fun bb1 hbb1 => lw_nil (ew_then ?_))))))))))))))))))))
 replace h := cond_some h
 rcases h with ⟨hc1, h⟩ | ⟨hc1, h⟩
 ·
  obtain rfl := hbb1.trans hc1
  refine cw_true Z (cw_seq (cw_region (lw_op Z Z Z (ow_assign Z Z (lw_nil (ew_then (cw_ret (ew_thenR ?_))))))))
  obtain rfl := sj h
  exact ew_ret (res1 Z (.tmp Z)) ⟨_, Z, ((vbool _)), hC.bx⟩
 ·
  obtain rfl := hbb1.trans hc1
  refine cw_false Z (cw_skip (ew_then (cw_seq (cw_seq (cw_region (lw_op Z Z Z (ow_assign Z Z (lw_nil (ew_then ?_)))))))))
  replace h := bind_some h
  obtain ⟨lr1, hlr1, h⟩ := h
  refine cw_for hlr1 (fun s a w' => ∃ (M' : Nat → Prop), Fits 27 [(0, v0p), (1, v1p), (5, (Zv s))] a ∧ Le w M w' M' ∧ Cx No w M w' M') ?_ ?_ ?_
  · exact fun a ha => ⟨M, ha.sub ⟨Z, Z, Z, Zt⟩, Le.refl _ _, hC⟩
  ·
   rintro k1 a w1 sr1 ⟨M1, hF1, hl1, hC1⟩ hb1 hR1
   refine cw_at (E := [(0, v0p), (1, v1p), (5, (Zv k1))]) hF1 (cw_seq (cw_seq (cw_region (lw_op Z Z Z (ow_move Z Z (lw_op Z Z Z (ow_move Z Z (lw_op Z Z Z (ow_len Z Z (VRep.mono hl1 h0) Tryd.underlying36 Z (lw_op Z Z Z (ow_lss Z Z Z fun bb2 hbb2 => lw_nil (ew_then ?_))))))))))))
   replace hb1 := cond_some hb1
   rcases hb1 with ⟨hc2, hb1⟩ | ⟨hc2, hb1⟩
   ·
    obtain rfl := hbb2.trans hc2
    refine cw_true Z (cw_skip (ew_then (cw_seq (cw_block (cw_seq ?_)))))
    replace hb1 := bind_some hb1
    obtain ⟨x1, hx1, hb1⟩ := hb1
    replace hb1 := bind_some hb1
    obtain ⟨x2, hx2, hb1⟩ := hb1
    refine cw_sub (E' := [(0, v0p), (1, v1p), (5, (Zv k1))]) ⟨Z, Z, Z, Zt⟩ (cw_drawQ 8 [PV (RSlice RTest) M1 a_a, PEq (Zv k1), PA RTest M1 x1, PV RTest M1 x1, PV (RSlice RTest) M1 a_b, PEq (Zv k1), PA RTest M1 x2, PV RTest M1 x2] (by kernel_rfl) Z (by kernel_rfl) ⟨PV.mono _ _ _, Zq, PA.mono _ _ _, PV.mono _ _ _, PV.mono _ _ _, Zq, PA.mono _ _ _, PV.mono _ _ _, Zt⟩ ⟨?_, ?_, ?_, ?_, ?_, ?_, ?_, ?_, Zt⟩ ?_)
    ·
     intro w2 D hS1 hd1
     have hl2 := Le.no M1 hS1
     exact dg_sub (E' := [(0, v0p)]) ⟨Z, Zt⟩ (dg_plain Z (ow_move Z Z ⟨BX.refl _ _, (VRep.mono (hl1.trans hl2) h0)⟩))
    · exact fun w3 D hS2 hd2 => dg_sub (E' := [(5, (Zv k1))]) ⟨Z, Zt⟩ (dg_plain Z (ow_move Z Z Zb))
    ·
     intro w4 D hS3 hd3
     have d1 : PV (RSlice RTest) M1 a_a (D 0) w4 := dpA hd3 0 Z
     generalize hq1 : (D 0) = v4 at d1
     exact dg_sub (E' := [(17, v4), (18, (Zv k1))]) ⟨congrArg some hq1, dpE hd3 1 Z Z, Zt⟩ (dg_plain Z (ow_indexSlice (R := RTest) Z Z Z d1 Tryd.underlying36 (Tryd.sizeOf128 _) hx1 fun p3 hp3 => ⟨BX.refl _ _, ⟨_, Z, hp3⟩⟩))
    ·
     intro w5 D hS4 hd4
     have d3 : PA RTest M1 x1 (D 2) w5 := dpA hd4 2 Z
     obtain ⟨p4, e1, ha1⟩ := d3
     exact dg_sub (E' := [(19, (.pointer (some p4)))]) ⟨congrArg some e1, Zt⟩ (dg_plain Z (ow_load (R := RTest) Z Z ha1 (Tryd.sizeOf128 _) (Tryd.isAgg128 _) fun v5 hv5 => ⟨BX.refl _ _, hv5⟩))
    ·
     intro w6 D hS5 hd5
     have hl6 := Le.no M1 hS5
     exact dg_sub (E' := [(1, v1p)]) ⟨Z, Zt⟩ (dg_plain Z (ow_move Z Z ⟨BX.refl _ _, (VRep.mono (hl1.trans hl6) h1)⟩))
    · exact fun w7 D hS6 hd6 => dg_sub (E' := [(5, (Zv k1))]) ⟨Z, Zt⟩ (dg_plain Z (ow_move Z Z Zb))
    ·
     intro w8 D hS7 hd7
     have d4 : PV (RSlice RTest) M1 a_b (D 4) w8 := dpA hd7 4 Z
     generalize hq2 : (D 4) = v6 at d4
     exact dg_sub (E' := [(21, v6), (22, (Zv k1))]) ⟨congrArg some hq2, dpE hd7 5 Z Z, Zt⟩ (dg_plain Z (ow_indexSlice (R := RTest) Z Z Z d4 Tryd.underlying36 (Tryd.sizeOf128 _) hx2 fun p5 hp5 => ⟨BX.refl _ _, ⟨_, Z, hp5⟩⟩))
    ·
     intro w9 D hS8 hd8
     have d6 : PA RTest M1 x2 (D 6) w9 := dpA hd8 6 Z
     obtain ⟨p6, e2, ha2⟩ := d6
     exact dg_sub (E' := [(23, (.pointer (some p6)))]) ⟨congrArg some e2, Zt⟩ (dg_plain Z (ow_load (R := RTest) Z Z ha2 (Tryd.sizeOf128 _) (Tryd.isAgg128 _) fun v7 hv7 => ⟨BX.refl _ _, hv7⟩))
    ·
     intro w10 D hS9 hd9
     have d10 : PV RTest M1 x1 (D 3) w10 := dpA hd9 3 Z
     have d14 : PV RTest M1 x2 (D 7) w10 := dpA hd9 7 Z
     have hl10 := Le.no M1 hS9
     have hC10 := hC1.no hS9
     generalize hq3 : (D 3) = v8 at d10
     generalize hq4 : (D 7) = v9 at d14
     refine lw_sub (E' := [(20, v8), (24, v9), (0, v0p), (1, v1p), (5, (Zv k1))]) ⟨congrArg some hq3, congrArg some hq4, Z, Z, Z, Zt⟩ ?_
     replace hb1 := bind_some hb1
     obtain ⟨x3, hx3, hb1⟩ := hb1
     refine lw_op Z Z Z (ow_call Z Z Tryd.call93 (w_laws_eqTest (hG.mono (hl1.trans hl10)) hC10.old d10 d14 hx3) fun v10 w11 hv10 => ?_)
     obtain ⟨hv10, hb2⟩ := hv10
     have hl11 := Le.no M1 hb2
     have hC11 := hC10.no hb2
     obtain rfl := vbool_eq hv10
     refine lw_op Z Z Z (ow_not Z Z (lw_nil (ew_then ?_)))
     replace hb1 := cond_some hb1
     rcases hb1 with ⟨hc3, hb1⟩ | ⟨hc3, hb1⟩
     ·
      subst hc3
      refine cw_false Z (cw_skip (ew_blockN (ew_then (cw_region (lw_op Z Z Z (ow_move Z Z (lw_op Z Z Z (ow_add Z Z Z (lw_op Z Z Z (ow_assign Z Z (lw_nil ?_)))))))))))
      have lz1 := ((hl1.trans hl10).trans hl11)
      exact ew_nxt (W (k1 + 1)) hb1 fun a ha => ⟨M1, (ha.sub ⟨Z, Z, Z, Zt⟩), lz1, hC11⟩
     ·
      subst hc3
      refine cw_true Z (cw_seq (cw_region (lw_op Z Z Z (ow_assign Z Z (lw_nil (ew_then (cw_ret (ew_blockR (ew_thenR (ew_thenR (ew_blockR (ew_brkR (ew_thenR ?_)))))))))))))
      have e3 := hR1 _ (sj hb1).symm
      subst e3
      obtain rfl := sj h
      exact ew_ret (res1 Z (.tmp Z)) ⟨_, Z, ((vbool _)), hC11.bx⟩
   ·
    obtain rfl := hbb2.trans hc2
    exact cw_false Z (cw_exit (ew_thenX (ew_thenX (ew_blockX (ew_brk k1 hb1 fun a ha => ⟨M1, (ha.sub ⟨Z, Z, Z, Zt⟩), hl1, hC1⟩)))))
  ·
   rintro k2 a w12 hlr2 ⟨M2, hF2, hl12, hC12⟩
   subst hlr2
   refine ew_at (E := [(0, v0p), (1, v1p), (5, (Zv k2))]) hF2 (ew_then (cw_seq (cw_region (lw_op Z Z Z (ow_assign Z Z (lw_nil (ew_then (cw_ret ?_))))))))
   obtain rfl := sj h
   exact ew_ret (res1 Z (.tmp Z)) ⟨_, Z, ((vbool _)), hC12.bx⟩

theorem w_laws_eqSpan {w : World} {M : Nat → Prop} (_hG : ARep (RArr 4 RShape) w M shapes ⟨0, 0, none⟩) (hO : ∀ b, M b → b < w.heap.size) {v0p : Value} {a_a : Span} (h0 : VRep RSpan w M a_a v0p) {v1p : Value} {a_b : Span} (h1 : VRep RSpan w M a_b v1p) {r : Bool} (h : F.laws_eqSpan a_a a_b = some r) :
  Calls Tryd.prog 180 [v0p, v1p].toArray w fun e w' => ∃ v, e = .returned v ∧ VRep RBool w' M r v ∧ BX No w w' := by
 have hC : Cx No w M w M := Cx.start hO (fun _ e => e.elim)
 clear _hG
 refine walk (N := 15) Tryd.func180 Z Tryd.ntmps180 Z (cw_seq (cw_region (lw_op Z Z Z (ow_box (R := RSpan) Z Z h0 hC fun p1 w1 hp1 hb1 hl1 hC1 => lw_op Z Z Z (ow_box (R := RSpan) Z Z (VRep.mono hl1 h1) hC1 fun p2 w2 hp2 hb2 hl2 hC2 => lw_op Z Z Z (ow_assign Z Z (lw_nil (ew_then (cw_seq (cw_seq (cw_region (lw_op Z Z Z (ow_fieldAddr Z Z Tryd.underlying120 Z (Tryd.sizeOf3 _) (lw_op Z Z Z (ow_load (R := RInt) Z Z (ARep.mono hl2 (hp1.fld fld_Span_Lo)) (Tryd.sizeOf3 _) (Tryd.isAgg3 _) fun v1 hv1 => ?_)))))))))))))))
 obtain rfl := vint_eq hv1
 refine lw_op Z Z Z (ow_fieldAddr Z Z Tryd.underlying120 Z (Tryd.sizeOf3 _) (lw_op Z Z Z (ow_load (R := RInt) Z Z (hp2.fld fld_Span_Lo) (Tryd.sizeOf3 _) (Tryd.isAgg3 _) fun v2 hv2 => ?_)))
 obtain rfl := vint_eq hv2
 refine lw_op Z Z Z (ow_neqI Z Z Z fun bb1 hbb1 => lw_nil (ew_then ?_))
 replace h := cond_some h
 rcases h with ⟨hc1, h⟩ | ⟨hc1, h⟩
 ·
  obtain rfl := hbb1.trans hc1
  refine cw_true Z (cw_seq (cw_region (lw_op Z Z Z (ow_assign Z Z (lw_nil (ew_then (cw_ret (ew_thenR ?_))))))))
  obtain rfl := sj h
  exact ew_ret (res1 Z (.tmp Z)) ⟨_, Z, ((vbool _)), hC2.bx⟩
 ·
  obtain rfl := hbb1.trans hc1
  refine cw_false Z (cw_skip (ew_then (cw_seq (cw_seq (cw_region (lw_op Z Z Z (ow_fieldAddr Z Z Tryd.underlying120 Z (Tryd.sizeOf3 _) (lw_op Z Z Z (ow_load (R := RInt) Z Z (ARep.mono hl2 (hp1.fld fld_Span_Hi)) (Tryd.sizeOf3 _) (Tryd.isAgg3 _) fun v3 hv3 => ?_)))))))))
  obtain rfl := vint_eq hv3
  refine lw_op Z Z Z (ow_fieldAddr Z Z Tryd.underlying120 Z (Tryd.sizeOf3 _) (lw_op Z Z Z (ow_load (R := RInt) Z Z (hp2.fld fld_Span_Hi) (Tryd.sizeOf3 _) (Tryd.isAgg3 _) fun v4 hv4 => ?_)))
  obtain rfl := vint_eq hv4
  refine lw_op Z Z Z (ow_neqI Z Z Z fun bb2 hbb2 => lw_nil (ew_then ?_))
  replace h := cond_some h
  rcases h with ⟨hc2, h⟩ | ⟨hc2, h⟩
  ·
   obtain rfl := hbb2.trans hc2
   refine cw_true Z (cw_seq (cw_region (lw_op Z Z Z (ow_assign Z Z (lw_nil (ew_then (cw_ret (ew_thenR ?_))))))))
   obtain rfl := sj h
   exact ew_ret (res1 Z (.tmp Z)) ⟨_, Z, ((vbool _)), hC2.bx⟩
  ·
   obtain rfl := hbb2.trans hc2
   refine cw_false Z (cw_skip (ew_then (cw_seq (cw_region (lw_op Z Z Z (ow_assign Z Z (lw_nil (ew_then (cw_ret ?_)))))))))
   obtain rfl := sj h
   exact ew_ret (res1 Z (.tmp Z)) ⟨_, Z, ((vbool _)), hC2.bx⟩

theorem w_laws_eqSpanS {w : World} {M : Nat → Prop} (hG : ARep (RArr 4 RShape) w M shapes ⟨0, 0, none⟩) (hO : ∀ b, M b → b < w.heap.size) {v0p : Value} {a_a : List Span} (h0 : VRep (RSlice RSpan) w M a_a v0p) {v1p : Value} {a_b : List Span} (h1 : VRep (RSlice RSpan) w M a_b v1p) {r : Bool} (h : F.laws_eqSpanS a_a a_b = some r) :
  Calls Tryd.prog 152 [v0p, v1p].toArray w fun e w' => ∃ v, e = .returned v ∧ VRep RBool w' M r v ∧ BX No w w' := by
 have hC : Cx No w M w M := Cx.start hO (fun _ e => e.elim)
 refine walk (N := 27) Tryd.func152 Z Tryd.ntmps152 Z (cw_seq (cw_region (lw_op Z Z Z (ow_assign Z Z (lw_nil (ew_then (cw_seq (cw_seq (cw_region (lw_op Z Z Z (ow_move Z Z (lw_op Z Z Z (ow_len Z Z h0 Tryd.underlying121 Z (lw_op Z Z Z (ow_move Z Z (lw_op Z Z Z (ow_len Z Z h1 Tryd.underlying121 Z (lw_op Z Z Z (ow_neqI Z Z Z fun bb1 hbb1 => lw_nil (ew_then ?_))))))))))))))))))))
 replace h := cond_some h
 rcases h with ⟨hc1, h⟩ | ⟨hc1, h⟩
 ·
  obtain rfl := hbb1.trans hc1
  refine cw_true Z (cw_seq (cw_region (lw_op Z Z Z (ow_assign Z Z (lw_nil (ew_then (cw_ret (ew_thenR ?_))))))))
  obtain rfl := sj h
  exact ew_ret (res1 Z (.tmp Z)) ⟨_, Z, ((vbool _)), hC.bx⟩
 ·
  obtain rfl := hbb1.trans hc1
  refine cw_false Z (cw_skip (ew_then (cw_seq (cw_seq (cw_region (lw_op Z Z Z (ow_assign Z Z (lw_nil (ew_then ?_)))))))))
  replace h := bind_some h
  obtain ⟨lr1, hlr1, h⟩ := h
  refine cw_for hlr1 (fun s a w' => ∃ (M' : Nat → Prop), Fits 27 [(0, v0p), (1, v1p), (5, (Zv s))] a ∧ Le w M w' M' ∧ Cx No w M w' M') ?_ ?_ ?_
  · exact fun a ha => ⟨M, ha.sub ⟨Z, Z, Z, Zt⟩, Le.refl _ _, hC⟩
  ·
   rintro k1 a w1 sr1 ⟨M1, hF1, hl1, hC1⟩ hb1 hR1
   refine cw_at (E := [(0, v0p), (1, v1p), (5, (Zv k1))]) hF1 (cw_seq (cw_seq (cw_region (lw_op Z Z Z (ow_move Z Z (lw_op Z Z Z (ow_move Z Z (lw_op Z Z Z (ow_len Z Z (VRep.mono hl1 h0) Tryd.underlying121 Z (lw_op Z Z Z (ow_lss Z Z Z fun bb2 hbb2 => lw_nil (ew_then ?_))))))))))))
   replace hb1 := cond_some hb1
   rcases hb1 with ⟨hc2, hb1⟩ | ⟨hc2, hb1⟩
   ·
    obtain rfl := hbb2.trans hc2
    refine cw_true Z (cw_skip (ew_then (cw_seq (cw_block (cw_seq ?_)))))
    replace hb1 := bind_some hb1
    obtain ⟨x1, hx1, hb1⟩ := hb1
    replace hb1 := bind_some hb1
    obtain ⟨x2, hx2, hb1⟩ := hb1
    refine cw_sub (E' := [(0, v0p), (1, v1p), (5, (Zv k1))]) ⟨Z, Z, Z, Zt⟩ (cw_drawQ 8 [PV (RSlice RSpan) M1 a_a, PEq (Zv k1), PA RSpan M1 x1, PV RSpan M1 x1, PV (RSlice RSpan) M1 a_b, PEq (Zv k1), PA RSpan M1 x2, PV RSpan M1 x2] (by kernel_rfl) Z (by kernel_rfl) ⟨PV.mono _ _ _, Zq, PA.mono _ _ _, PV.mono _ _ _, PV.mono _ _ _, Zq, PA.mono _ _ _, PV.mono _ _ _, Zt⟩ ⟨?_, ?_, ?_, ?_, ?_, ?_, ?_, ?_, Zt⟩ ?_)
    ·
     intro w2 D hS1 hd1
     have hl2 := Le.no M1 hS1
     exact dg_sub (E' := [(0, v0p)]) ⟨Z, Zt⟩ (dg_plain Z (ow_move Z Z ⟨BX.refl _ _, (VRep.mono (hl1.trans hl2) h0)⟩))
    · exact fun w3 D hS2 hd2 => dg_sub (E' := [(5, (Zv k1))]) ⟨Z, Zt⟩ (dg_plain Z (ow_move Z Z Zb))
    ·
     intro w4 D hS3 hd3
     have d1 : PV (RSlice RSpan) M1 a_a (D 0) w4 := dpA hd3 0 Z
     generalize hq1 : (D 0) = v4 at d1
     exact dg_sub (E' := [(17, v4), (18, (Zv k1))]) ⟨congrArg some hq1, dpE hd3 1 Z Z, Zt⟩ (dg_plain Z (ow_indexSlice (R := RSpan) Z Z Z d1 Tryd.underlying121 (Tryd.sizeOf120 _) hx1 fun p3 hp3 => ⟨BX.refl _ _, ⟨_, Z, hp3⟩⟩))
    ·
     intro w5 D hS4 hd4
     have d3 : PA RSpan M1 x1 (D 2) w5 := dpA hd4 2 Z
     obtain ⟨p4, e1, ha1⟩ := d3
     exact dg_sub (E' := [(19, (.pointer (some p4)))]) ⟨congrArg some e1, Zt⟩ (dg_plain Z (ow_load (R := RSpan) Z Z ha1 (Tryd.sizeOf120 _) (Tryd.isAgg120 _) fun v5 hv5 => ⟨BX.refl _ _, hv5⟩))
    ·
     intro w6 D hS5 hd5
     have hl6 := Le.no M1 hS5
     exact dg_sub (E' := [(1, v1p)]) ⟨Z, Zt⟩ (dg_plain Z (ow_move Z Z ⟨BX.refl _ _, (VRep.mono (hl1.trans hl6) h1)⟩))
    · exact fun w7 D hS6 hd6 => dg_sub (E' := [(5, (Zv k1))]) ⟨Z, Zt⟩ (dg_plain Z (ow_move Z Z Zb))
    ·
     intro w8 D hS7 hd7
     have d4 : PV (RSlice RSpan) M1 a_b (D 4) w8 := dpA hd7 4 Z
     generalize hq2 : (D 4) = v6 at d4
     exact dg_sub (E' := [(21, v6), (22, (Zv k1))]) ⟨congrArg some hq2, dpE hd7 5 Z Z, Zt⟩ (dg_plain Z (ow_indexSlice (R := RSpan) Z Z Z d4 Tryd.underlying121 (Tryd.sizeOf120 _) hx2 fun p5 hp5 => ⟨BX.refl _ _, ⟨_, Z, hp5⟩⟩))
    ·
     intro w9 D hS8 hd8
     have d6 : PA RSpan M1 x2 (D 6) w9 := dpA hd8 6 Z
     obtain ⟨p6, e2, ha2⟩ := d6
     exact dg_sub (E' := [(23, (.pointer (some p6)))]) ⟨congrArg some e2, Zt⟩ (dg_plain Z (ow_load (R := RSpan) Z Z ha2 (Tryd.sizeOf120 _) (Tryd.isAgg120 _) fun v7 hv7 => ⟨BX.refl _ _, hv7⟩))
    ·
     intro w10 D hS9 hd9
     have d10 : PV RSpan M1 x1 (D 3) w10 := dpA hd9 3 Z
     have d14 : PV RSpan M1 x2 (D 7) w10 := dpA hd9 7 Z
     have hl10 := Le.no M1 hS9
     have hC10 := hC1.no hS9
     generalize hq3 : (D 3) = v8 at d10
     generalize hq4 : (D 7) = v9 at d14
     refine lw_sub (E' := [(20, v8), (24, v9), (0, v0p), (1, v1p), (5, (Zv k1))]) ⟨congrArg some hq3, congrArg some hq4, Z, Z, Z, Zt⟩ ?_
     replace hb1 := bind_some hb1
     obtain ⟨x3, hx3, hb1⟩ := hb1
     refine lw_op Z Z Z (ow_call Z Z Tryd.call180 (w_laws_eqSpan (hG.mono (hl1.trans hl10)) hC10.old d10 d14 hx3) fun v10 w11 hv10 => ?_)
     obtain ⟨hv10, hb2⟩ := hv10
     have hl11 := Le.no M1 hb2
     have hC11 := hC10.no hb2
     obtain rfl := vbool_eq hv10
     refine lw_op Z Z Z (ow_not Z Z (lw_nil (ew_then ?_)))
     replace hb1 := cond_some hb1
     rcases hb1 with ⟨hc3, hb1⟩ | ⟨hc3, hb1⟩
     ·
      subst hc3
      refine cw_false Z (cw_skip (ew_blockN (ew_then (cw_region (lw_op Z Z Z (ow_move Z Z (lw_op Z Z Z (ow_add Z Z Z (lw_op Z Z Z (ow_assign Z Z (lw_nil ?_)))))))))))
      have lz1 := ((hl1.trans hl10).trans hl11)
      exact ew_nxt (W (k1 + 1)) hb1 fun a ha => ⟨M1, (ha.sub ⟨Z, Z, Z, Zt⟩), lz1, hC11⟩
     ·
      subst hc3
      refine cw_true Z (cw_seq (cw_region (lw_op Z Z Z (ow_assign Z Z (lw_nil (ew_then (cw_ret (ew_blockR (ew_thenR (ew_thenR (ew_blockR (ew_brkR (ew_thenR ?_)))))))))))))
      have e3 := hR1 _ (sj hb1).symm
      subst e3
      obtain rfl := sj h
      exact ew_ret (res1 Z (.tmp Z)) ⟨_, Z, ((vbool _)), hC11.bx⟩
   ·
    obtain rfl := hbb2.trans hc2
    exact cw_false Z (cw_exit (ew_thenX (ew_thenX (ew_blockX (ew_brk k1 hb1 fun a ha => ⟨M1, (ha.sub ⟨Z, Z, Z, Zt⟩), hl1, hC1⟩)))))
  ·
   rintro k2 a w12 hlr2 ⟨M2, hF2, hl12, hC12⟩
   subst hlr2
   refine ew_at (E := [(0, v0p), (1, v1p), (5, (Zv k2))]) hF2 (ew_then (cw_seq (cw_region (lw_op Z Z Z (ow_assign Z Z (lw_nil (ew_then (cw_ret ?_))))))))
   obtain rfl := sj h
   exact ew_ret (res1 Z (.tmp Z)) ⟨_, Z, ((vbool _)), hC12.bx⟩

theorem w_laws_eqSpanSS {w : World} {M : Nat → Prop} (hG : ARep (RArr 4 RShape) w M shapes ⟨0, 0, none⟩) (hO : ∀ b, M b → b < w.heap.size) {v0p : Value} {a_a : List (List Span)} (h0 : VRep (RSlice (RSlice RSpan)) w M a_a v0p) {v1p : Value} {a_b : List (List Span)} (h1 : VRep (RSlice (RSlice RSpan)) w M a_b v1p) {r : Bool} (h : F.laws_eqSpanSS a_a a_b = some r) :
  Calls Tryd.prog 94 [v0p, v1p].toArray w fun e w' => ∃ v, e = .returned v ∧ VRep RBool w' M r v ∧ BX No w w' := by
 have hC : Cx No w M w M := Cx.start hO (fun _ e => e.elim)
 refine walk (N := 27) Tryd.func94 Z Tryd.ntmps94 Z (cw_seq (cw_region (lw_op Z Z Z (ow_assign Z Z (lw_nil (ew_then (cw_seq (cw_seq (cw_region (lw_op Z Z Z (ow_move Z Z (lw_op Z Z Z (ow_len Z Z h0 Tryd.underlying46 Z (lw_op Z Z Z (ow_move Z Z (lw_op Z Z Z (ow_len Z Z h1 Tryd.underlying46 Z (lw_op Z Z Z (ow_neqI Z Z Z fun bb1 hbb1 => lw_nil (ew_then ?_))))))))))))))))))))
 replace h := cond_some h
 rcases h with ⟨hc1, h⟩ | ⟨hc1, h⟩
 ·
  obtain rfl := hbb1.trans hc1
  refine cw_true Z (cw_seq (cw_region (lw_op Z Z Z (ow_assign Z Z (lw_nil (ew_then (cw_ret (ew_thenR ?_))))))))
  obtain rfl := sj h
  exact ew_ret (res1 Z (.tmp Z)) ⟨_, Z, ((vbool _)), hC.bx⟩
 ·
  obtain rfl := hbb1.trans hc1
  refine cw_false Z (cw_skip (ew_then (cw_seq (cw_seq (cw_region (lw_op Z Z Z (ow_assign Z Z (lw_nil (ew_then ?_)))))))))
  replace h := bind_some h
  obtain ⟨lr1, hlr1, h⟩ := h
  refine cw_for hlr1 (fun s a w' => ∃ (M' : Nat → Prop), Fits 27 [(0, v0p), (1, v1p), (5, (Zv s))] a ∧ Le w M w' M' ∧ Cx No w M w' M') ?_ ?_ ?_
  · exact fun a ha => ⟨M, ha.sub ⟨Z, Z, Z, Zt⟩, Le.refl _ _, hC⟩
  ·
   rintro k1 a w1 sr1 ⟨M1, hF1, hl1, hC1⟩ hb1 hR1
   refine cw_at (E := [(0, v0p), (1, v1p), (5, (Zv k1))]) hF1 (cw_seq (cw_seq (cw_region (lw_op Z Z Z (ow_move Z Z (lw_op Z Z Z (ow_move Z Z (lw_op Z Z Z (ow_len Z Z (VRep.mono hl1 h0) Tryd.underlying46 Z (lw_op Z Z Z (ow_lss Z Z Z fun bb2 hbb2 => lw_nil (ew_then ?_))))))))))))
   replace hb1 := cond_some hb1
   rcases hb1 with ⟨hc2, hb1⟩ | ⟨hc2, hb1⟩
   ·
    obtain rfl := hbb2.trans hc2
    refine cw_true Z (cw_skip (ew_then (cw_seq (cw_block (cw_seq ?_)))))
    replace hb1 := bind_some hb1
    obtain ⟨x1, hx1, hb1⟩ := hb1
    replace hb1 := bind_some hb1
    obtain ⟨x2, hx2, hb1⟩ := hb1
    refine cw_sub (E' := [(0, v0p), (1, v1p), (5, (Zv k1))]) ⟨Z, Z, Z, Zt⟩ (cw_drawQ 8 [PV (RSlice (RSlice RSpan)) M1 a_a, PEq (Zv k1), PA (RSlice RSpan) M1 x1, PV (RSlice RSpan) M1 x1, PV (RSlice (RSlice RSpan)) M1 a_b, PEq (Zv k1), PA (RSlice RSpan) M1 x2, PV (RSlice RSpan) M1 x2] (by kernel_rfl) Z (by kernel_rfl) ⟨PV.mono _ _ _, Zq, PA.mono _ _ _, PV.mono _ _ _, PV.mono _ _ _, Zq, PA.mono _ _ _, PV.mono _ _ _, Zt⟩ ⟨?_, ?_, ?_, ?_, ?_, ?_, ?_, ?_, Zt⟩ ?_)
    ·
     intro w2 D hS1 hd1
     have hl2 := Le.no M1 hS1
     exact dg_sub (E' := [(0, v0p)]) ⟨Z, Zt⟩ (dg_plain Z (ow_move Z Z ⟨BX.refl _ _, (VRep.mono (hl1.trans hl2) h0)⟩))
    · exact fun w3 D hS2 hd2 => dg_sub (E' := [(5, (Zv k1))]) ⟨Z, Zt⟩ (dg_plain Z (ow_move Z Z Zb))
    ·
     intro w4 D hS3 hd3
     have d1 : PV (RSlice (RSlice RSpan)) M1 a_a (D 0) w4 := dpA hd3 0 Z
     generalize hq1 : (D 0) = v4 at d1
     exact dg_sub (E' := [(17, v4), (18, (Zv k1))]) ⟨congrArg some hq1, dpE hd3 1 Z Z, Zt⟩ (dg_plain Z (ow_indexSlice (R := (RSlice RSpan)) Z Z Z d1 Tryd.underlying46 (Tryd.sizeOf121 _) hx1 fun p3 hp3 => ⟨BX.refl _ _, ⟨_, Z, hp3⟩⟩))
    ·
     intro w5 D hS4 hd4
     have d3 : PA (RSlice RSpan) M1 x1 (D 2) w5 := dpA hd4 2 Z
     obtain ⟨p4, e1, ha1⟩ := d3
     exact dg_sub (E' := [(19, (.pointer (some p4)))]) ⟨congrArg some e1, Zt⟩ (dg_plain Z (ow_load (R := (RSlice RSpan)) Z Z ha1 (Tryd.sizeOf121 _) (Tryd.isAgg121 _) fun v5 hv5 => ⟨BX.refl _ _, hv5⟩))
    ·
     intro w6 D hS5 hd5
     have hl6 := Le.no M1 hS5
     exact dg_sub (E' := [(1, v1p)]) ⟨Z, Zt⟩ (dg_plain Z (ow_move Z Z ⟨BX.refl _ _, (VRep.mono (hl1.trans hl6) h1)⟩))
    · exact fun w7 D hS6 hd6 => dg_sub (E' := [(5, (Zv k1))]) ⟨Z, Zt⟩ (dg_plain Z (ow_move Z Z Zb))
    ·
     intro w8 D hS7 hd7
     have d4 : PV (RSlice (RSlice RSpan)) M1 a_b (D 4) w8 := dpA hd7 4 Z
     generalize hq2 : (D 4) = v6 at d4
     exact dg_sub (E' := [(21, v6), (22, (Zv k1))]) ⟨congrArg some hq2, dpE hd7 5 Z Z, Zt⟩ (dg_plain Z (ow_indexSlice (R := (RSlice RSpan)) Z Z Z d4 Tryd.underlying46 (Tryd.sizeOf121 _) hx2 fun p5 hp5 => ⟨BX.refl _ _, ⟨_, Z, hp5⟩⟩))
    ·
     intro w9 D hS8 hd8
     have d6 : PA (RSlice RSpan) M1 x2 (D 6) w9 := dpA hd8 6 Z
     obtain ⟨p6, e2, ha2⟩ := d6
     exact dg_sub (E' := [(23, (.pointer (some p6)))]) ⟨congrArg some e2, Zt⟩ (dg_plain Z (ow_load (R := (RSlice RSpan)) Z Z ha2 (Tryd.sizeOf121 _) (Tryd.isAgg121 _) fun v7 hv7 => ⟨BX.refl _ _, hv7⟩))
    ·
     intro w10 D hS9 hd9
     have d10 : PV (RSlice RSpan) M1 x1 (D 3) w10 := dpA hd9 3 Z
     have d14 : PV (RSlice RSpan) M1 x2 (D 7) w10 := dpA hd9 7 Z
     have hl10 := Le.no M1 hS9
     have hC10 := hC1.no hS9
     generalize hq3 : (D 3) = v8 at d10
     generalize hq4 : (D 7) = v9 at d14
     refine lw_sub (E' := [(20, v8), (24, v9), (0, v0p), (1, v1p), (5, (Zv k1))]) ⟨congrArg some hq3, congrArg some hq4, Z, Z, Z, Zt⟩ ?_
     replace hb1 := bind_some hb1
     obtain ⟨x3, hx3, hb1⟩ := hb1
     refine lw_op Z Z Z (ow_call Z Z Tryd.call152 (w_laws_eqSpanS (hG.mono (hl1.trans hl10)) hC10.old d10 d14 hx3) fun v10 w11 hv10 => ?_)
     obtain ⟨hv10, hb2⟩ := hv10
     have hl11 := Le.no M1 hb2
     have hC11 := hC10.no hb2
     obtain rfl := vbool_eq hv10
     refine lw_op Z Z Z (ow_not Z Z (lw_nil (ew_then ?_)))
     replace hb1 := cond_some hb1
     rcases hb1 with ⟨hc3, hb1⟩ | ⟨hc3, hb1⟩
     ·
      subst hc3
      refine cw_false Z (cw_skip (ew_blockN (ew_then (cw_region (lw_op Z Z Z (ow_move Z Z (lw_op Z Z Z (ow_add Z Z Z (lw_op Z Z Z (ow_assign Z Z (lw_nil ?_)))))))))))
      have lz1 := ((hl1.trans hl10).trans hl11)
      exact ew_nxt (W (k1 + 1)) hb1 fun a ha => ⟨M1, (ha.sub ⟨Z, Z, Z, Zt⟩), lz1, hC11⟩
     ·
      subst hc3
      refine cw_true Z (cw_seq (cw_region (lw_op Z Z Z (ow_assign Z Z (lw_nil (ew_then (cw_ret (ew_blockR (ew_thenR (ew_thenR (ew_blockR (ew_brkR (ew_thenR ?_)))))))))))))
      have e3 := hR1 _ (sj hb1).symm
      subst e3
      obtain rfl := sj h
      exact ew_ret (res1 Z (.tmp Z)) ⟨_, Z, ((vbool _)), hC11.bx⟩
   ·
    obtain rfl := hbb2.trans hc2
    exact cw_false Z (cw_exit (ew_thenX (ew_thenX (ew_blockX (ew_brk k1 hb1 fun a ha => ⟨M1, (ha.sub ⟨Z, Z, Z, Zt⟩), hl1, hC1⟩)))))
  ·
   rintro k2 a w12 hlr2 ⟨M2, hF2, hl12, hC12⟩
   subst hlr2
   refine ew_at (E := [(0, v0p), (1, v1p), (5, (Zv k2))]) hF2 (ew_then (cw_seq (cw_region (lw_op Z Z Z (ow_assign Z Z (lw_nil (ew_then (cw_ret ?_))))))))
   obtain rfl := sj h
   exact ew_ret (res1 Z (.tmp Z)) ⟨_, Z, ((vbool _)), hC12.bx⟩

theorem w_laws_eqBox {w : World} {M : Nat → Prop} (hG : ARep (RArr 4 RShape) w M shapes ⟨0, 0, none⟩) (hO : ∀ b, M b → b < w.heap.size) {v0p : Value} {a_a : Box} (h0 : VRep RBox w M a_a v0p) {v1p : Value} {a_b : Box} (h1 : VRep RBox w M a_b v1p) {r : Bool} (h : F.laws_eqBox a_a a_b = some r) :
  Calls Tryd.prog 26 [v0p, v1p].toArray w fun e w' => ∃ v, e = .returned v ∧ VRep RBool w' M r v ∧ BX No w w' := by
 have hC : Cx No w M w M := Cx.start hO (fun _ e => e.elim)
 refine walk (N := 11) Tryd.func26 Z Tryd.ntmps26 Z (cw_seq (cw_region (lw_op Z Z Z (ow_box (R := RBox) Z Z h0 hC fun p1 w1 hp1 hb1 hl1 hC1 => lw_op Z Z Z (ow_box (R := RBox) Z Z (VRep.mono hl1 h1) hC1 fun p2 w2 hp2 hb2 hl2 hC2 => lw_op Z Z Z (ow_assign Z Z (lw_nil (ew_then (cw_seq (cw_seq (cw_region (lw_op Z Z Z (ow_fieldAddr Z Z Tryd.underlying48 Z (Tryd.sizeOf46 _) (lw_op Z Z Z (ow_load (R := (RSlice (RSlice RSpan))) Z Z (ARep.mono hl2 (hp1.fld fld_Box_Sides)) (Tryd.sizeOf46 _) (Tryd.isAgg46 _) fun v1 hv1 => lw_op Z Z Z (ow_fieldAddr Z Z Tryd.underlying48 Z (Tryd.sizeOf46 _) (lw_op Z Z Z (ow_load (R := (RSlice (RSlice RSpan))) Z Z (hp2.fld fld_Box_Sides) (Tryd.sizeOf46 _) (Tryd.isAgg46 _) fun v2 hv2 => ?_))))))))))))))))))
 replace h := bind_some h
 obtain ⟨x1, hx1, h⟩ := h
 refine lw_op Z Z Z (ow_call Z Z Tryd.call94 (w_laws_eqSpanSS (hG.mono (hl1.trans hl2)) hC2.old hv1 hv2 hx1) fun v3 w3 hv3 => ?_)
 obtain ⟨hv3, hb3⟩ := hv3
 have hC3 := hC2.no hb3
 obtain rfl := vbool_eq hv3
 refine lw_op Z Z Z (ow_not Z Z (lw_nil (ew_then ?_)))
 replace h := cond_some h
 rcases h with ⟨hc1, h⟩ | ⟨hc1, h⟩
 ·
  subst hc1
  refine cw_false Z (cw_skip (ew_then (cw_seq (cw_region (lw_op Z Z Z (ow_assign Z Z (lw_nil (ew_then (cw_ret ?_)))))))))
  obtain rfl := sj h
  exact ew_ret (res1 Z (.tmp Z)) ⟨_, Z, ((vbool _)), hC3.bx⟩
 ·
  subst hc1
  refine cw_true Z (cw_seq (cw_region (lw_op Z Z Z (ow_assign Z Z (lw_nil (ew_then (cw_ret (ew_thenR ?_))))))))
  obtain rfl := sj h
  exact ew_ret (res1 Z (.tmp Z)) ⟨_, Z, ((vbool _)), hC3.bx⟩

theorem wm_laws_markSpanS {Y : Nat → Prop} {w : World} (hU : UFz Y w) {v0p : Value} {a_a : List Span} (h0 : VRep (RSlice RSpanA) w (NotY Y) a_a v0p) {a_k : Int} {r : Int} (h : F.laws_markSpanS a_a a_k = some r) :
  Calls Tryd.prog 153 [v0p, (.int .i64 a_k)].toArray w fun e w' => ∃ v, e = .returned v ∧ v = .int .i64 r ∧ MK Y w w' := by
 have hO : ∀ b, Y b → b < w.heap.size := fun b h => (hU b h).1
 have hC : Cx Y w Y w Y := Cx.start hO (fun _ h => h)
 refine walk (N := 27) Tryd.func153 Z Tryd.ntmps153 Z (cw_seq (cw_region (lw_op Z Z Z (ow_assign Z Z (lw_nil (ew_then (cw_seq (cw_seq (cw_region (lw_op Z Z Z (ow_assign Z Z (lw_nil (ew_then ?_)))))))))))))
 replace h := bind_some h
 obtain ⟨lr1, hlr1, h⟩ := h
 refine cw_for hlr1 (fun s a w' => ∃ (M' : Nat → Prop), Fits 27 [(0, v0p), (1, (Zv s.1)), (5, (Zv s.2))] a ∧ Le w Y w' M' ∧ Cx Y w Y w' M' ∧ MK Y w w') ?_ ?_ ?_
 · exact fun a ha => ⟨Y, ha.sub ⟨Z, Z, Z, Zt⟩, Le.refl _ _, hC, (MK.refl _ _)⟩
 ·
  rintro ⟨k1, k2⟩ a w1 sr1 ⟨M1, hF1, hl1, hC1, hmk1⟩ hb1 hR1
  refine cw_at (E := [(0, v0p), (1, (Zv k1)), (5, (Zv k2))]) hF1 (cw_seq (cw_seq (cw_region (lw_op Z Z Z (ow_move Z Z (lw_op Z Z Z (ow_move Z Z (lw_op Z Z Z (ow_len Z Z (KnA.vrep (KnA.slice knA_Span) hmk1.kin h0) Tryd.underlying121 Z (lw_op Z Z Z (ow_lss Z Z Z fun bb1 hbb1 => lw_nil (ew_then ?_))))))))))))
  replace hb1 := cond_some hb1
  rcases hb1 with ⟨hc1, hb1⟩ | ⟨hc1, hb1⟩
  ·
   obtain rfl := hbb1.trans hc1
   refine cw_true Z (cw_skip (ew_then (cw_seq (cw_block (cw_seq (cw_region (lw_op Z Z Z (ow_move Z Z (lw_op Z Z Z (ow_move Z Z (lw_op Z Z Z (ow_move Z Z ?_))))))))))))
   replace hb1 := bind_some hb1
   obtain ⟨x1, hx1, hb1⟩ := hb1
   refine lw_op Z Z Z (ow_indexSlice (R := RSpanA) Z Z Z (KnA.vrep (KnA.slice knA_Span) hmk1.kin h0) Tryd.underlying121 (Tryd.sizeOf120 _) hx1 fun p1 hp1 => lw_op Z Z Z (ow_fieldAddr Z Z Tryd.underlying120 Z (Tryd.sizeOf3 _) (lw_op0 Z Z (ow_storeK (R := RIntA) Z Z Z (hp1.fld fldA_Span_Lo) Z kd_int Z Z (Tryd.sizeOf3 _) (hU.mk hmk1) fun w2 hmk2 => ?_))))
   have hl2 := Le.of_bx M1 hmk2.bx hC1.xm
   have hC2 := hC1.go hmk2.bx (fun b e => .inr e)
   refine lw_nil (ew_then (cw_seq (cw_region (lw_op Z Z Z (ow_move Z Z (lw_op Z Z Z (ow_add Z Z Z (lw_op Z Z Z (ow_assign Z Z (lw_nil (ew_then (cw_seq (cw_region (lw_op Z Z Z (ow_move Z Z (lw_op Z Z Z (ow_move Z Z (lw_op Z Z Z (ow_move Z Z (lw_op Z Z Z (ow_indexSlice (R := RSpanA) Z Z Z (KnA.vrep (KnA.slice knA_Span) (hmk1.trans hmk2).kin h0) Tryd.underlying121 (Tryd.sizeOf120 _) hx1 fun p2 hp2 => lw_op Z Z Z (ow_fieldAddr Z Z Tryd.underlying120 Z (Tryd.sizeOf3 _) (lw_op0 Z Z (ow_storeK (R := RIntA) Z Z Z (hp2.fld fldA_Span_Hi) Z kd_int Z Z (Tryd.sizeOf3 _) (hU.mk (hmk1.trans hmk2)) fun w3 hmk3 => ?_))))))))))))))))))))))))
   have hl3 := Le.of_bx M1 hmk3.bx hC2.xm
   have hC3 := hC2.go hmk3.bx (fun b e => .inr e)
   refine lw_nil (ew_then (cw_region (lw_op Z Z Z (ow_move Z Z (lw_op Z Z Z (ow_add Z Z Z (lw_op Z Z Z (ow_assign Z Z (lw_nil (ew_blockN (ew_then (cw_region (lw_op Z Z Z (ow_move Z Z (lw_op Z Z Z (ow_add Z Z Z (lw_op Z Z Z (ow_assign Z Z (lw_nil ?_)))))))))))))))))))
   have lz1 := ((hl1.trans hl2).trans hl3)
   exact ew_nxt ((W ((W (k1 + 1)) + 1)), (W (k2 + 1))) hb1 fun a ha => ⟨M1, (ha.sub ⟨Z, Z, Z, Zt⟩), lz1, hC3, ((hmk1.trans hmk2).trans hmk3)⟩
  ·
   obtain rfl := hbb1.trans hc1
   exact cw_false Z (cw_exit (ew_thenX (ew_thenX (ew_blockX (ew_brk (k1, k2) hb1 fun a ha => ⟨M1, (ha.sub ⟨Z, Z, Z, Zt⟩), hl1, hC1, hmk1⟩)))))
 ·
  rintro ⟨k3, k4⟩ a w4 hlr2 ⟨M2, hF2, hl4, hC4, hmk4⟩
  subst hlr2
  refine ew_at (E := [(0, v0p), (1, (Zv k3)), (5, (Zv k4))]) hF2 (ew_then (cw_seq (cw_region (lw_op Z Z Z (ow_move Z Z (lw_op Z Z Z (ow_assign Z Z (lw_nil (ew_then (cw_ret ?_))))))))))
  obtain rfl := sj h
  exact ew_ret (res1 Z (.tmp Z)) ⟨_, Z, Z, hmk4⟩

theorem wr_laws_markSpanS {w : World} {M : Nat → Prop} (hO : ∀ b, M b → b < w.heap.size) {B : Nat} {v0p : Value} {a_a : List Span} (h0 : OwnRow RSpan B 120 w M a_a v0p) {a_k : Int} {r : Int × (List Span)} (h : F.laws_markSpanS_r a_a a_k = some r) :
  Calls Tryd.prog 153 [v0p, (.int .i64 a_k)].toArray w fun e w' => ∃ v, e = .returned v ∧ VRep RInt w' M r.1 v ∧ ∃ M', OwnRow RSpan B 120 w' M' r.2 v0p ∧ Cx (fun b => v0p.ownBlock = some b) w M w' M' := by
 have hC : Cx (fun b => v0p.ownBlock = some b) w M w M := Cx.start hO (fun b e => h0.mem b e)
 refine walk (N := 27) Tryd.func153 Z Tryd.ntmps153 Z (cw_seq (cw_region (lw_op Z Z Z (ow_assign Z Z (lw_nil (ew_then (cw_seq (cw_seq (cw_region (lw_op Z Z Z (ow_assign Z Z (lw_nil (ew_then ?_)))))))))))))
 replace h := bind_some h
 obtain ⟨lr1, hlr1, h⟩ := h
 refine cw_for hlr1 (fun s a w' => ∃ (M' : Nat → Prop), Fits 27 [(0, v0p), (1, (Zv s.1)), (5, (Zv s.2.1))] a ∧ Le w M w' M' ∧ Cx (fun b => v0p.ownBlock = some b) w M w' M' ∧ OwnRow RSpan B 120 w' M' s.2.2 v0p ∧ (∀ b, (Value.ownBlock v0p) = some b → w.heap.size ≤ b ∨ (fun b => v0p.ownBlock = some b) b)) ?_ ?_ ?_
 · exact fun a ha => ⟨M, ha.sub ⟨Z, Z, Z, Zt⟩, Le.refl _ _, hC, h0, (fun b e => .inr e)⟩
 ·
  rintro ⟨k1, k2, y1⟩ a w1 sr1 ⟨M1, hF1, hl1, hC1, hw1, hge1⟩ hb1 hR1
  refine cw_at (E := [(0, v0p), (1, (Zv k1)), (5, (Zv k2))]) hF1 (cw_seq (cw_seq (cw_region (lw_op Z Z Z (ow_move Z Z (lw_op Z Z Z (ow_move Z Z (lw_op Z Z Z (ow_lenOwn Z Z hw1 Tryd.underlying121 (lw_op Z Z Z (ow_lss Z Z Z fun bb1 hbb1 => lw_nil (ew_then ?_))))))))))))
  replace hb1 := cond_some hb1
  rcases hb1 with ⟨hc1, hb1⟩ | ⟨hc1, hb1⟩
  ·
   obtain rfl := hbb1.trans hc1
   refine cw_true Z (cw_skip (ew_then (cw_seq (cw_block (cw_seq (cw_region (lw_op Z Z Z (ow_move Z Z (lw_op Z Z Z (ow_move Z Z (lw_op Z Z Z (ow_move Z Z ?_))))))))))))
   replace hb1 := bind_some hb1
   obtain ⟨x1, hx1, hb1⟩ := hb1
   refine lw_op Z Z Z (ow_indexRow (R := RSpan) Z Z Z hw1 Tryd.underlying121 (Tryd.sizeOf120 _) hx1 (lw_op Z Z Z (ow_fieldAddr Z Z Tryd.underlying120 Z (Tryd.sizeOf3 _) (lw_op0 Z Z (ow_storeElX (X := (fun b => v0p.ownBlock = some b)) (R := RSpan) (S := RInt) Z Z Z Z hw1 (orow_blk hw1 hx1) hx1 set_Span_Lo (Tryd.sizeOf3 _) (vint _) hge1 hC1 fun w2 ho1 hb2 hl2 hC2 => lw_nil (ew_then (cw_seq (cw_region (lw_op Z Z Z (ow_move Z Z (lw_op Z Z Z (ow_add Z Z Z (lw_op Z Z Z (ow_assign Z Z (lw_nil (ew_then (cw_seq (cw_region (lw_op Z Z Z (ow_move Z Z (lw_op Z Z Z (ow_move Z Z (lw_op Z Z Z (ow_move Z Z ?_))))))))))))))))))))))))
   replace hb1 := bind_some hb1
   obtain ⟨x2, hx2, hb1⟩ := hb1
   refine lw_op Z Z Z (ow_indexRow (R := RSpan) Z Z Z ho1 Tryd.underlying121 (Tryd.sizeOf120 _) hx2 (lw_op Z Z Z (ow_fieldAddr Z Z Tryd.underlying120 Z (Tryd.sizeOf3 _) (lw_op0 Z Z (ow_storeElX (X := (fun b => v0p.ownBlock = some b)) (R := RSpan) (S := RInt) Z Z Z Z ho1 (orow_blk ho1 hx2) hx2 set_Span_Hi (Tryd.sizeOf3 _) (vint _) hge1 hC2 fun w3 ho2 hb3 hl3 hC3 => lw_nil (ew_then (cw_region (lw_op Z Z Z (ow_move Z Z (lw_op Z Z Z (ow_add Z Z Z (lw_op Z Z Z (ow_assign Z Z (lw_nil (ew_blockN (ew_then (cw_region (lw_op Z Z Z (ow_move Z Z (lw_op Z Z Z (ow_add Z Z Z (lw_op Z Z Z (ow_assign Z Z (lw_nil ?_))))))))))))))))))))))))
   have lz1 := ((hl1.trans hl2).trans hl3)
   exact ew_nxt ((W ((W (k1 + 1)) + 1)), (W (k2 + 1)), (List.set (List.set y1 (k2 : Int).toNat { x1 with Lo := k1 }) (k2 : Int).toNat { x2 with Hi := (W (k1 + 1)) })) hb1 fun a ha => ⟨M1, (ha.sub ⟨Z, Z, Z, Zt⟩), lz1, hC3, ho2, hge1⟩
  ·
   obtain rfl := hbb1.trans hc1
   exact cw_false Z (cw_exit (ew_thenX (ew_thenX (ew_blockX (ew_brk (k1, k2, y1) hb1 fun a ha => ⟨M1, (ha.sub ⟨Z, Z, Z, Zt⟩), hl1, hC1, hw1, hge1⟩)))))
 ·
  rintro ⟨k3, k4, y2⟩ a w4 hlr2 ⟨M2, hF2, hl4, hC4, hw2, hge2⟩
  subst hlr2
  refine ew_at (E := [(0, v0p), (1, (Zv k3)), (5, (Zv k4))]) hF2 (ew_then (cw_seq (cw_region (lw_op Z Z Z (ow_move Z Z (lw_op Z Z Z (ow_assign Z Z (lw_nil (ew_then (cw_ret ?_))))))))))
  obtain rfl := sj h
  exact ew_ret (res1 Z (.tmp Z)) ⟨_, Z, (vint _), M2, hw2, hC4⟩

theorem wm_laws_markSpanSS {Y : Nat → Prop} {w : World} (hU : UFz Y w) {v0p : Value} {a_a : List (List Span)} (h0 : VRep (RSlice (RSlice RSpanA)) w (NotY Y) a_a v0p) {a_k : Int} {r : Int} (h : F.laws_markSpanSS a_a a_k = some r) :
  Calls Tryd.prog 95 [v0p, (.int .i64 a_k)].toArray w fun e w' => ∃ v, e = .returned v ∧ v = .int .i64 r ∧ MK Y w w' := by
 have hO : ∀ b, Y b → b < w.heap.size := fun b h => (hU b h).1
 have hC : Cx Y w Y w Y := Cx.start hO (fun _ h => h)
 refine walk (N := 19) Tryd.func95 Z Tryd.ntmps95 Z (cw_seq (cw_region (lw_op Z Z Z (ow_assign Z Z (lw_nil (ew_then (cw_seq (cw_seq (cw_region (lw_op Z Z Z (ow_assign Z Z (lw_nil (ew_then ?_)))))))))))))
 replace h := bind_some h
 obtain ⟨lr1, hlr1, h⟩ := h
 refine cw_for hlr1 (fun s a w' => ∃ (M' : Nat → Prop), Fits 19 [(0, v0p), (1, (Zv s.1)), (5, (Zv s.2))] a ∧ Le w Y w' M' ∧ Cx Y w Y w' M' ∧ MK Y w w') ?_ ?_ ?_
 · exact fun a ha => ⟨Y, ha.sub ⟨Z, Z, Z, Zt⟩, Le.refl _ _, hC, (MK.refl _ _)⟩
 ·
  rintro ⟨k1, k2⟩ a w1 sr1 ⟨M1, hF1, hl1, hC1, hmk1⟩ hb1 hR1
  refine cw_at (E := [(0, v0p), (1, (Zv k1)), (5, (Zv k2))]) hF1 (cw_seq (cw_seq (cw_region (lw_op Z Z Z (ow_move Z Z (lw_op Z Z Z (ow_move Z Z (lw_op Z Z Z (ow_len Z Z (KnA.vrep (KnA.slice (KnA.slice knA_Span)) hmk1.kin h0) Tryd.underlying46 Z (lw_op Z Z Z (ow_lss Z Z Z fun bb1 hbb1 => lw_nil (ew_then ?_))))))))))))
  replace hb1 := cond_some hb1
  rcases hb1 with ⟨hc1, hb1⟩ | ⟨hc1, hb1⟩
  ·
   obtain rfl := hbb1.trans hc1
   refine cw_true Z (cw_skip (ew_then (cw_seq (cw_block (cw_region (lw_op Z Z Z (ow_move Z Z (lw_op Z Z Z (ow_move Z Z ?_)))))))))
   replace hb1 := bind_some hb1
   obtain ⟨x1, hx1, hb1⟩ := hb1
   refine lw_op Z Z Z (ow_indexSlice (R := (RSlice RSpanA)) Z Z Z (KnA.vrep (KnA.slice (KnA.slice knA_Span)) hmk1.kin h0) Tryd.underlying46 (Tryd.sizeOf121 _) hx1 fun p1 hp1 => lw_op Z Z Z (ow_load (R := (RSlice RSpanA)) Z Z hp1 (Tryd.sizeOf121 _) (Tryd.isAgg121 _) fun v3 hv3 => lw_op Z Z Z (ow_move Z Z ?_)))
   replace hb1 := bind_some hb1
   obtain ⟨x2, hx2, hb1⟩ := hb1
   refine lw_op Z Z Z (ow_call Z Z Tryd.call153 (wm_laws_markSpanS (hU.mk hmk1) hv3 hx2) fun v4 w2 hv4 => ?_)
   obtain ⟨rfl, hmk2⟩ := hv4
   have hl2 := Le.of_bx M1 hmk2.bx hC1.xm
   have hC2 := hC1.go hmk2.bx (fun b e => .inr e)
   exact lw_op Z Z Z (ow_assign Z Z (lw_nil (ew_blockN (ew_then (cw_region (lw_op Z Z Z (ow_move Z Z (lw_op Z Z Z (ow_add Z Z Z (lw_op Z Z Z (ow_assign Z Z (lw_nil (ew_nxt (x2, (W (k2 + 1))) hb1 fun a ha => ⟨M1, (ha.sub ⟨Z, Z, Z, Zt⟩), (hl1.trans hl2), hC2, (hmk1.trans hmk2)⟩)))))))))))))
  ·
   obtain rfl := hbb1.trans hc1
   exact cw_false Z (cw_exit (ew_thenX (ew_thenX (ew_blockX (ew_brk (k1, k2) hb1 fun a ha => ⟨M1, (ha.sub ⟨Z, Z, Z, Zt⟩), hl1, hC1, hmk1⟩)))))
 ·
  rintro ⟨k3, k4⟩ a w3 hlr2 ⟨M2, hF2, hl3, hC3, hmk3⟩
  subst hlr2
  refine ew_at (E := [(0, v0p), (1, (Zv k3)), (5, (Zv k4))]) hF2 (ew_then (cw_seq (cw_region (lw_op Z Z Z (ow_move Z Z (lw_op Z Z Z (ow_assign Z Z (lw_nil (ew_then (cw_ret ?_))))))))))
  obtain rfl := sj h
  exact ew_ret (res1 Z (.tmp Z)) ⟨_, Z, Z, hmk3⟩

theorem we_laws_markSpanSS {Y : Nat → Prop} {w : World} (hU : ∀ b, Y b → b < w.heap.size) {v0p : Value} {a_a : List (List Span)} (h0 : VRep (RSSS 120) w (NotY Y) a_a v0p) {a_k : Int} {r : Int × (List (List Span))} (h : F.laws_markSpanSS_r a_a a_k = some r) :
    Calls Tryd.prog 95 [v0p, (.int .i64 a_k)].toArray w fun e w' => ∃ v, e = .returned v ∧ v = .int .i64 r.1 ∧ VRep (RSSS 120) w' (NotY Y) r.2 v0p ∧ BX Y w w' := by
  refine walk (N := 19) Tryd.func95 rfl Tryd.ntmps95 rfl ?_
  refine cw_seq ?_
  refine cw_region ?_
  refine lw_op rfl rfl rfl (ow_assign rfl rfl ?_)
  refine lw_nil ?_
  refine ew_then ?_
  refine cw_seq ?_
  refine cw_seq ?_
  refine cw_region ?_
  refine lw_op rfl rfl rfl (ow_assign rfl rfl ?_)
  refine lw_nil ?_
  refine ew_then ?_
  replace h := bind_some h
  obtain ⟨lr1, hlr1, h⟩ := h
  refine cw_for hlr1 (fun s a w' => Fits 19 [(0, v0p), (1, (.int .i64 s.1)), (5, (.int .i64 s.2.1))] a ∧ BX Y w w' ∧ VRep (RSSS 120) w' (NotY Y) s.2.2 v0p) ?_ ?_ ?_
  · intro a ha
    exact ⟨ha.sub ⟨rfl, rfl, rfl, trivial⟩, BX.refl _ _, h0⟩
  · rintro ⟨k1, k2, y1⟩ a w1 sr1 ⟨hF1, hbx1, hv1⟩ hb1 hR1
    refine cw_at (E := [(0, v0p), (1, (.int .i64 k1)), (5, (.int .i64 k2))]) hF1 ?_
    refine cw_seq ?_
    refine cw_seq ?_
    refine cw_region ?_
    refine lw_op rfl rfl rfl (ow_move rfl rfl ?_)
    refine lw_op rfl rfl rfl (ow_move rfl rfl ?_)
    refine lw_op rfl rfl rfl (ow_len rfl rfl (Fg.vrep fgSSS hv1) Tryd.underlying46 rfl ?_)
    refine lw_op rfl rfl rfl (ow_lss rfl rfl rfl fun bb1 hbb1 => ?_)
    refine lw_nil ?_
    refine ew_then ?_
    replace hb1 := cond_some hb1
    rcases hb1 with ⟨hc1, hb1⟩ | ⟨hc1, hb1⟩
    · obtain rfl := hbb1.trans hc1
      refine cw_true rfl ?_
      refine cw_skip ?_
      refine ew_then ?_
      refine cw_seq ?_
      refine cw_block ?_
      refine cw_region ?_
      refine lw_op rfl rfl rfl (ow_move rfl rfl ?_)
      refine lw_op rfl rfl rfl (ow_move rfl rfl ?_)
      replace hb1 := bind_some hb1
      obtain ⟨x1, hx1, hb1⟩ := hb1
      obtain ⟨m, rfl, hml, hym⟩ := idx_some hx1
      obtain ⟨p, c, u, F1, rfl, hcell, hFY, hru, hwd⟩ := slice_focus rfl hv1 hym
      refine lw_op rfl rfl rfl (ow_indexP rfl rfl rfl Tryd.underlying46 (Tryd.sizeOf121 _) hml ?_)
      refine lw_op rfl rfl rfl (ow_loadC rfl rfl hcell (Tryd.isAgg121 _) ?_)
      refine lw_op rfl rfl rfl (ow_move rfl rfl ?_)
      replace hb1 := bind_some hb1
      obtain ⟨x2, hx2, hb1⟩ := hb1
      obtain ⟨ho1, ho2, ho3⟩ := spr_in hru
      refine lw_op rfl rfl rfl (ow_call rfl rfl Tryd.call153 (wr_laws_markSpanS ho2 ho1 hx2) fun v4 w2 hv4 => ?_)
      obtain ⟨hv4, M2, hr2, hk2⟩ := hv4
      obtain rfl := vint_eq hv4
      have hbf : BX F1 w1 w2 := hk2.bx.mono fun b _ e => ho3 b e
      have hv2 := hwd w2 x2.2 hbf (spr_out hr2 ho3)
      have hbx2 : BX Y w w2 := hbx1.trans (hbf.mono fun b _ e => hFY b e)
      refine lw_op rfl rfl rfl (ow_assign rfl rfl ?_)
      refine lw_nil ?_
      refine ew_blockN ?_
      refine ew_then ?_
      refine cw_region ?_
      refine lw_op rfl rfl rfl (ow_move rfl rfl ?_)
      refine lw_op rfl rfl rfl (ow_add rfl rfl rfl ?_)
      refine lw_op rfl rfl rfl (ow_assign rfl rfl ?_)
      refine lw_nil ?_
      refine ew_nxt (x2.1, (W ((m : Int) + 1)), (List.set y1 m x2.2)) hb1 fun a ha => ⟨?_, hbx2, hv2⟩
      exact ha.sub ⟨rfl, rfl, rfl, trivial⟩
    · obtain rfl := hbb1.trans hc1
      refine cw_false rfl ?_
      refine cw_exit ?_
      refine ew_thenX ?_
      refine ew_thenX ?_
      refine ew_blockX ?_
      refine ew_brk (k1, k2, y1) hb1 fun a ha => ⟨?_, hbx1, hv1⟩
      exact ha.sub ⟨rfl, rfl, rfl, trivial⟩
  · rintro ⟨k3, k4, y2⟩ a w3 hlr2 ⟨hF2, hbx3, hv3⟩
    subst hlr2
    refine ew_at (E := [(0, v0p), (1, (.int .i64 k3)), (5, (.int .i64 k4))]) hF2 ?_
    refine ew_then ?_
    refine cw_seq ?_
    refine cw_region ?_
    refine lw_op rfl rfl rfl (ow_move rfl rfl ?_)
    refine lw_op rfl rfl rfl (ow_assign rfl rfl ?_)
    refine lw_nil ?_
    refine ew_then ?_
    refine cw_ret ?_
    obtain rfl := Option.some.inj h
    exact ew_ret (res1 rfl (.tmp rfl)) ⟨_, rfl, rfl, hv3, hbx3⟩

theorem we_laws_markBox {Y : Nat → Prop} {w : World} (hU : ∀ b, Y b → b < w.heap.size) {v0p : Value} {a_a : Box} (h0 : VRep (RBoxS 120) w (NotY Y) a_a v0p) {a_k : Int} {r : Int × (Box)} (h : F.laws_markBox_r a_a a_k = some r) :
    Calls Tryd.prog 27 [v0p, (.int .i64 a_k)].toArray w fun e w' => ∃ v, e = .returned v ∧ v = .int .i64 r.1 ∧ VRep (RBoxS 120) w' (NotY Y) r.2 v0p ∧ BX Y w w' := by
  have hC : Cx No w No w No := Cx.start (fun _ e => e.elim) (fun _ e => e.elim)
  refine walk (N := 10) Tryd.func27 rfl Tryd.ntmps27 rfl ?_
  refine cw_seq ?_
  refine cw_region ?_
  obtain ⟨A1, c1, rfl, hw1⟩ := openS_Box h0
  refine lw_op rfl rfl rfl (ow_boxOwn rfl rfl hC fun g1 w1 hg1 hg2 ho1 hb1 hl1 hC1 => ?_)
  have hw2 := VRep.mono (Le.no _ hb1) hw1
  refine lw_op rfl rfl rfl (ow_assign rfl rfl ?_)
  refine lw_nil ?_
  refine ew_then ?_
  refine cw_seq ?_
  refine cw_region ?_
  refine lw_op rfl rfl rfl (ow_fieldAddr rfl rfl Tryd.underlying48 rfl (Tryd.sizeOf46 _) ?_)
  refine lw_op rfl rfl rfl (ow_loadOwn1 rfl rfl rfl ho1 (Tryd.isAgg46 _) rfl ?_)
  refine lw_op rfl rfl rfl (ow_move rfl rfl ?_)
  replace h := bind_some h
  obtain ⟨x1, hx1, h⟩ := h
  refine lw_op rfl rfl rfl (ow_call rfl rfl Tryd.call95 (we_laws_markSpanSS (fun b e => Nat.lt_of_lt_of_le (hU b e) hb1.size) hw2 hx1) fun v1 w2 hv1 => ?_)
  obtain ⟨rfl, hr2, hbf⟩ := hv1
  refine lw_op rfl rfl rfl (ow_assign rfl rfl ?_)
  refine lw_nil ?_
  refine ew_then ?_
  refine cw_seq ?_
  refine cw_region ?_
  refine lw_op rfl rfl rfl (ow_move rfl rfl ?_)
  refine lw_op rfl rfl rfl (ow_assign rfl rfl ?_)
  refine lw_nil ?_
  refine ew_then ?_
  refine cw_ret ?_
  obtain rfl := Option.some.inj h
  exact ew_ret (res1 rfl (.tmp rfl)) ⟨_, rfl, rfl, shutS_Box hr2, hb1.no_to.trans hbf⟩

theorem wm_laws_markTestS {Y : Nat → Prop} {w : World} (hU : UFz Y w) {v0p : Value} {a_a : List Test} (h0 : VRep (RSlice RTestA) w (NotY Y) a_a v0p) {a_k : Int} {r : Int} (h : F.laws_markTestS a_a a_k = some r) :
  Calls Tryd.prog 28 [v0p, (.int .i64 a_k)].toArray w fun e w' => ∃ v, e = .returned v ∧ v = .int .i64 r ∧ MK Y w w' := by
 have hO : ∀ b, Y b → b < w.heap.size := fun b h => (hU b h).1
 have hC : Cx Y w Y w Y := Cx.start hO (fun _ h => h)
 refine walk (N := 43) Tryd.func28 Z Tryd.ntmps28 Z (cw_seq (cw_region (lw_op Z Z Z (ow_assign Z Z (lw_nil (ew_then (cw_seq (cw_seq (cw_region (lw_op Z Z Z (ow_assign Z Z (lw_nil (ew_then ?_)))))))))))))
 replace h := bind_some h
 obtain ⟨lr1, hlr1, h⟩ := h
 refine cw_for hlr1 (fun s a w' => ∃ (M' : Nat → Prop), Fits 43 [(0, v0p), (1, (Zv s.1)), (5, (Zv s.2))] a ∧ Le w Y w' M' ∧ Cx Y w Y w' M' ∧ MK Y w w') ?_ ?_ ?_
 · exact fun a ha => ⟨Y, ha.sub ⟨Z, Z, Z, Zt⟩, Le.refl _ _, hC, (MK.refl _ _)⟩
 ·
  rintro ⟨k1, k2⟩ a w1 sr1 ⟨M1, hF1, hl1, hC1, hmk1⟩ hb1 hR1
  refine cw_at (E := [(0, v0p), (1, (Zv k1)), (5, (Zv k2))]) hF1 (cw_seq (cw_seq (cw_region (lw_op Z Z Z (ow_move Z Z (lw_op Z Z Z (ow_move Z Z (lw_op Z Z Z (ow_len Z Z (KnA.vrep (KnA.slice knA_Test) hmk1.kin h0) Tryd.underlying36 Z (lw_op Z Z Z (ow_lss Z Z Z fun bb1 hbb1 => lw_nil (ew_then ?_))))))))))))
  replace hb1 := cond_some hb1
  rcases hb1 with ⟨hc1, hb1⟩ | ⟨hc1, hb1⟩
  ·
   obtain rfl := hbb1.trans hc1
   refine cw_true Z (cw_skip (ew_then (cw_seq (cw_block (cw_seq (cw_region (lw_op Z Z Z (ow_move Z Z (lw_op Z Z Z (ow_move Z Z (lw_op Z Z Z (ow_move Z Z ?_))))))))))))
   replace hb1 := bind_some hb1
   obtain ⟨x1, hx1, hb1⟩ := hb1
   refine lw_op Z Z Z (ow_indexSlice (R := RTestA) Z Z Z (KnA.vrep (KnA.slice knA_Test) hmk1.kin h0) Tryd.underlying36 (Tryd.sizeOf128 _) hx1 fun p1 hp1 => lw_op Z Z Z (ow_fieldAddr Z Z Tryd.underlying128 Z (Tryd.sizeOf3 _) (lw_op0 Z Z (ow_storeK (R := RIntA) Z Z Z (hp1.fld fldA_Test_Field) Z kd_int Z Z (Tryd.sizeOf3 _) (hU.mk hmk1) fun w2 hmk2 => ?_))))
   have hl2 := Le.of_bx M1 hmk2.bx hC1.xm
   have hC2 := hC1.go hmk2.bx (fun b e => .inr e)
   refine lw_nil (ew_then (cw_seq (cw_region (lw_op Z Z Z (ow_move Z Z (lw_op Z Z Z (ow_add Z Z Z (lw_op Z Z Z (ow_assign Z Z (lw_nil (ew_then (cw_seq (cw_region (lw_op Z Z Z (ow_move Z Z (lw_op Z Z Z (ow_move Z Z (lw_op Z Z Z (ow_move Z Z (lw_op Z Z Z (ow_indexSlice (R := RTestA) Z Z Z (KnA.vrep (KnA.slice knA_Test) (hmk1.trans hmk2).kin h0) Tryd.underlying36 (Tryd.sizeOf128 _) hx1 fun p2 hp2 => lw_op Z Z Z (ow_fieldAddr Z Z Tryd.underlying128 Z (Tryd.sizeOf3 _) (lw_op0 Z Z (ow_storeK (R := RIntA) Z Z Z (hp2.fld fldA_Test_Lo) Z kd_int Z Z (Tryd.sizeOf3 _) (hU.mk (hmk1.trans hmk2)) fun w3 hmk3 => ?_))))))))))))))))))))))))
   have hl3 := Le.of_bx M1 hmk3.bx hC2.xm
   have hC3 := hC2.go hmk3.bx (fun b e => .inr e)
   refine lw_nil (ew_then (cw_seq (cw_region (lw_op Z Z Z (ow_move Z Z (lw_op Z Z Z (ow_add Z Z Z (lw_op Z Z Z (ow_assign Z Z (lw_nil (ew_then (cw_seq (cw_region (lw_op Z Z Z (ow_move Z Z (lw_op Z Z Z (ow_move Z Z (lw_op Z Z Z (ow_move Z Z (lw_op Z Z Z (ow_indexSlice (R := RTestA) Z Z Z (KnA.vrep (KnA.slice knA_Test) ((hmk1.trans hmk2).trans hmk3).kin h0) Tryd.underlying36 (Tryd.sizeOf128 _) hx1 fun p3 hp3 => lw_op Z Z Z (ow_fieldAddr Z Z Tryd.underlying128 Z (Tryd.sizeOf3 _) (lw_op0 Z Z (ow_storeK (R := RIntA) Z Z Z (hp3.fld fldA_Test_Hi) Z kd_int Z Z (Tryd.sizeOf3 _) (hU.mk ((hmk1.trans hmk2).trans hmk3)) fun w4 hmk4 => ?_))))))))))))))))))))))))
   have hl4 := Le.of_bx M1 hmk4.bx hC3.xm
   have hC4 := hC3.go hmk4.bx (fun b e => .inr e)
   refine lw_nil (ew_then (cw_seq (cw_region (lw_op Z Z Z (ow_move Z Z (lw_op Z Z Z (ow_add Z Z Z (lw_op Z Z Z (ow_assign Z Z (lw_nil (ew_then (cw_seq (cw_region (lw_op Z Z Z (ow_move Z Z (lw_op Z Z Z (ow_move Z Z (lw_op Z Z Z (ow_move Z Z (lw_op Z Z Z (ow_rem Z Z Z (by decide) (lw_op Z Z Z (ow_eqlI Z Z Z fun bb2 hbb2 => lw_op Z Z Z (ow_indexSlice (R := RTestA) Z Z Z (KnA.vrep (KnA.slice knA_Test) (((hmk1.trans hmk2).trans hmk3).trans hmk4).kin h0) Tryd.underlying36 (Tryd.sizeOf128 _) hx1 fun p4 hp4 => lw_op Z Z Z (ow_fieldAddr Z Z Tryd.underlying128 Z (Tryd.sizeOf4 _) (lw_op0 Z Z (ow_storeK (R := RBoolA) Z Z Z (hp4.fld fldA_Test_Not) Z kd_bool Z Z (Tryd.sizeOf4 _) (hU.mk (((hmk1.trans hmk2).trans hmk3).trans hmk4)) fun w5 hmk5 => ?_)))))))))))))))))))))))))))
   have hl5 := Le.of_bx M1 hmk5.bx hC4.xm
   have hC5 := hC4.go hmk5.bx (fun b e => .inr e)
   refine lw_nil (ew_then (cw_region (lw_op Z Z Z (ow_move Z Z (lw_op Z Z Z (ow_add Z Z Z (lw_op Z Z Z (ow_assign Z Z (lw_nil (ew_blockN (ew_then (cw_region (lw_op Z Z Z (ow_move Z Z (lw_op Z Z Z (ow_add Z Z Z (lw_op Z Z Z (ow_assign Z Z (lw_nil ?_)))))))))))))))))))
   have lz1 := ((((hl1.trans hl2).trans hl3).trans hl4).trans hl5)
   exact ew_nxt ((W ((W ((W ((W (k1 + 1)) + 1)) + 1)) + 1)), (W (k2 + 1))) hb1 fun a ha => ⟨M1, (ha.sub ⟨Z, Z, Z, Zt⟩), lz1, hC5, ((((hmk1.trans hmk2).trans hmk3).trans hmk4).trans hmk5)⟩
  ·
   obtain rfl := hbb1.trans hc1
   exact cw_false Z (cw_exit (ew_thenX (ew_thenX (ew_blockX (ew_brk (k1, k2) hb1 fun a ha => ⟨M1, (ha.sub ⟨Z, Z, Z, Zt⟩), hl1, hC1, hmk1⟩)))))
 ·
  rintro ⟨k3, k4⟩ a w6 hlr2 ⟨M2, hF2, hl6, hC6, hmk6⟩
  subst hlr2
  refine ew_at (E := [(0, v0p), (1, (Zv k3)), (5, (Zv k4))]) hF2 (ew_then (cw_seq (cw_region (lw_op Z Z Z (ow_move Z Z (lw_op Z Z Z (ow_assign Z Z (lw_nil (ew_then (cw_ret ?_))))))))))
  obtain rfl := sj h
  exact ew_ret (res1 Z (.tmp Z)) ⟨_, Z, Z, hmk6⟩

theorem w_laws_heldSpanS {w : World} {M : Nat → Prop} (_hG : ARep (RArr 4 RShape) w M shapes ⟨0, 0, none⟩) (hO : ∀ b, M b → b < w.heap.size) {v0p : Value} {a_a : List Span} (h0 : VRep (RSlice RSpan) w M a_a v0p) {a_k : Int} {r : Int} (h : F.laws_heldSpanS a_a a_k = some r) :
  Calls Tryd.prog 156 [v0p, (.int .i64 a_k)].toArray w fun e w' => ∃ v, e = .returned v ∧ VRep RInt w' M r v ∧ BX No w w' := by
 have hC : Cx No w M w M := Cx.start hO (fun _ e => e.elim)
 clear _hG
 refine walk (N := 31) Tryd.func156 Z Tryd.ntmps156 Z (cw_seq (cw_region (lw_op Z Z Z (ow_assign Z Z (lw_nil (ew_then (cw_seq (cw_seq (cw_region (lw_op Z Z Z (ow_assign Z Z (lw_nil (ew_then ?_)))))))))))))
 replace h := bind_some h
 obtain ⟨lr1, hlr1, h⟩ := h
 refine cw_for hlr1 (fun s a w' => ∃ (M' : Nat → Prop), Fits 31 [(0, v0p), (1, (Zv s.1)), (5, (Zv s.2))] a ∧ Le w M w' M' ∧ Cx No w M w' M') ?_ ?_ ?_
 · exact fun a ha => ⟨M, ha.sub ⟨Z, Z, Z, Zt⟩, Le.refl _ _, hC⟩
 ·
  rintro ⟨k1, k2⟩ a w1 sr1 ⟨M1, hF1, hl1, hC1⟩ hb1 hR1
  refine cw_at (E := [(0, v0p), (1, (Zv k1)), (5, (Zv k2))]) hF1 (cw_seq (cw_seq (cw_region (lw_op Z Z Z (ow_move Z Z (lw_op Z Z Z (ow_move Z Z (lw_op Z Z Z (ow_len Z Z (VRep.mono hl1 h0) Tryd.underlying121 Z (lw_op Z Z Z (ow_lss Z Z Z fun bb1 hbb1 => lw_nil (ew_then ?_))))))))))))
  replace hb1 := cond_some hb1
  rcases hb1 with ⟨hc1, hb1⟩ | ⟨hc1, hb1⟩
  ·
   obtain rfl := hbb1.trans hc1
   refine cw_true Z (cw_skip (ew_then (cw_seq (cw_block (cw_seq (cw_seq (cw_region (lw_op Z Z Z (ow_move Z Z (lw_op Z Z Z (ow_move Z Z ?_)))))))))))
   replace hb1 := bind_some hb1
   obtain ⟨x1, hx1, hb1⟩ := hb1
   refine lw_op Z Z Z (ow_indexSlice (R := RSpan) Z Z Z (VRep.mono hl1 h0) Tryd.underlying121 (Tryd.sizeOf120 _) hx1 fun p1 hp1 => lw_op Z Z Z (ow_fieldAddr Z Z Tryd.underlying120 Z (Tryd.sizeOf3 _) (lw_op Z Z Z (ow_load (R := RInt) Z Z (hp1.fld fld_Span_Lo) (Tryd.sizeOf3 _) (Tryd.isAgg3 _) fun v3 hv3 => ?_))))
   obtain rfl := vint_eq hv3
   refine lw_op Z Z Z (ow_move Z Z (lw_op Z Z Z (ow_neqI Z Z Z fun bb2 hbb2 => lw_nil (ew_then ?_))))
   replace hb1 := cond_some hb1
   rcases hb1 with ⟨hc2, hb1⟩ | ⟨hc2, hb1⟩
   ·
    obtain rfl := hbb2.trans hc2
    refine cw_true Z (cw_seq (cw_region (lw_op Z Z Z (ow_assign Z Z (lw_nil (ew_then (cw_ret (ew_thenR (ew_blockR (ew_thenR (ew_thenR (ew_blockR (ew_brkR (ew_thenR ?_))))))))))))))
    have e1 := hR1 _ (sj hb1).symm
    subst e1
    obtain rfl := sj h
    exact ew_ret (res1 Z (.tmp Z)) ⟨_, Z, ((vint _)), hC1.bx⟩
   ·
    obtain rfl := hbb2.trans hc2
    refine cw_false Z (cw_skip (ew_then (cw_seq (cw_region (lw_op Z Z Z (ow_move Z Z (lw_op Z Z Z (ow_add Z Z Z (lw_op Z Z Z (ow_assign Z Z (lw_nil (ew_then (cw_seq (cw_seq (cw_region (lw_op Z Z Z (ow_move Z Z (lw_op Z Z Z (ow_move Z Z (lw_op Z Z Z (ow_indexSlice (R := RSpan) Z Z Z (VRep.mono hl1 h0) Tryd.underlying121 (Tryd.sizeOf120 _) hx1 fun p2 hp2 => lw_op Z Z Z (ow_fieldAddr Z Z Tryd.underlying120 Z (Tryd.sizeOf3 _) (lw_op Z Z Z (ow_load (R := RInt) Z Z (hp2.fld fld_Span_Hi) (Tryd.sizeOf3 _) (Tryd.isAgg3 _) fun v4 hv4 => ?_))))))))))))))))))))))))
    obtain rfl := vint_eq hv4
    refine lw_op Z Z Z (ow_move Z Z (lw_op Z Z Z (ow_neqI Z Z Z fun bb3 hbb3 => lw_nil (ew_then ?_))))
    replace hb1 := cond_some hb1
    rcases hb1 with ⟨hc3, hb1⟩ | ⟨hc3, hb1⟩
    ·
     obtain rfl := hbb3.trans hc3
     refine cw_true Z (cw_seq (cw_region (lw_op Z Z Z (ow_assign Z Z (lw_nil (ew_then (cw_ret (ew_thenR (ew_blockR (ew_thenR (ew_thenR (ew_blockR (ew_brkR (ew_thenR ?_))))))))))))))
     have e2 := hR1 _ (sj hb1).symm
     subst e2
     obtain rfl := sj h
     exact ew_ret (res1 Z (.tmp Z)) ⟨_, Z, ((vint _)), hC1.bx⟩
    ·
     obtain rfl := hbb3.trans hc3
     exact cw_false Z (cw_skip (ew_then (cw_region (lw_op Z Z Z (ow_move Z Z (lw_op Z Z Z (ow_add Z Z Z (lw_op Z Z Z (ow_assign Z Z (lw_nil (ew_blockN (ew_then (cw_region (lw_op Z Z Z (ow_move Z Z (lw_op Z Z Z (ow_add Z Z Z (lw_op Z Z Z (ow_assign Z Z (lw_nil (ew_nxt ((W ((W (k1 + 1)) + 1)), (W (k2 + 1))) hb1 fun a ha => ⟨M1, (ha.sub ⟨Z, Z, Z, Zt⟩), hl1, hC1⟩)))))))))))))))))))))
  ·
   obtain rfl := hbb1.trans hc1
   exact cw_false Z (cw_exit (ew_thenX (ew_thenX (ew_blockX (ew_brk (k1, k2) hb1 fun a ha => ⟨M1, (ha.sub ⟨Z, Z, Z, Zt⟩), hl1, hC1⟩)))))
 ·
  rintro ⟨k3, k4⟩ a w2 hlr2 ⟨M2, hF2, hl2, hC2⟩
  subst hlr2
  refine ew_at (E := [(0, v0p), (1, (Zv k3)), (5, (Zv k4))]) hF2 (ew_then (cw_seq (cw_region (lw_op Z Z Z (ow_move Z Z (lw_op Z Z Z (ow_assign Z Z (lw_nil (ew_then (cw_ret ?_))))))))))
  obtain rfl := sj h
  exact ew_ret (res1 Z (.tmp Z)) ⟨_, Z, ((vint _)), hC2.bx⟩

theorem w_laws_heldSpanSS {w : World} {M : Nat → Prop} (hG : ARep (RArr 4 RShape) w M shapes ⟨0, 0, none⟩) (hO : ∀ b, M b → b < w.heap.size) {v0p : Value} {a_a : List (List Span)} (h0 : VRep (RSlice (RSlice RSpan)) w M a_a v0p) {a_k : Int} {r : Int} (h : F.laws_heldSpanSS a_a a_k = some r) :
  Calls Tryd.prog 100 [v0p, (.int .i64 a_k)].toArray w fun e w' => ∃ v, e = .returned v ∧ VRep RInt w' M r v ∧ BX No w w' := by
 have hC : Cx No w M w M := Cx.start hO (fun _ e => e.elim)
 refine walk (N := 21) Tryd.func100 Z Tryd.ntmps100 Z (cw_seq (cw_region (lw_op Z Z Z (ow_assign Z Z (lw_nil (ew_then (cw_seq (cw_seq (cw_region (lw_op Z Z Z (ow_assign Z Z (lw_nil (ew_then ?_)))))))))))))
 replace h := bind_some h
 obtain ⟨lr1, hlr1, h⟩ := h
 refine cw_for hlr1 (fun s a w' => ∃ (M' : Nat → Prop), Fits 21 [(0, v0p), (1, (Zv s.1)), (5, (Zv s.2))] a ∧ Le w M w' M' ∧ Cx No w M w' M') ?_ ?_ ?_
 · exact fun a ha => ⟨M, ha.sub ⟨Z, Z, Z, Zt⟩, Le.refl _ _, hC⟩
 ·
  rintro ⟨k1, k2⟩ a w1 sr1 ⟨M1, hF1, hl1, hC1⟩ hb1 hR1
  refine cw_at (E := [(0, v0p), (1, (Zv k1)), (5, (Zv k2))]) hF1 (cw_seq (cw_seq (cw_region (lw_op Z Z Z (ow_move Z Z (lw_op Z Z Z (ow_move Z Z (lw_op Z Z Z (ow_len Z Z (VRep.mono hl1 h0) Tryd.underlying46 Z (lw_op Z Z Z (ow_lss Z Z Z fun bb1 hbb1 => lw_nil (ew_then ?_))))))))))))
  replace hb1 := cond_some hb1
  rcases hb1 with ⟨hc1, hb1⟩ | ⟨hc1, hb1⟩
  ·
   obtain rfl := hbb1.trans hc1
   refine cw_true Z (cw_skip (ew_then (cw_seq (cw_block (cw_seq (cw_region (lw_op Z Z Z (ow_move Z Z (lw_op Z Z Z (ow_move Z Z ?_))))))))))
   replace hb1 := bind_some hb1
   obtain ⟨x1, hx1, hb1⟩ := hb1
   refine lw_op Z Z Z (ow_indexSlice (R := (RSlice RSpan)) Z Z Z (VRep.mono hl1 h0) Tryd.underlying46 (Tryd.sizeOf121 _) hx1 fun p1 hp1 => lw_op Z Z Z (ow_load (R := (RSlice RSpan)) Z Z hp1 (Tryd.sizeOf121 _) (Tryd.isAgg121 _) fun v3 hv3 => lw_op Z Z Z (ow_move Z Z ?_)))
   replace hb1 := bind_some hb1
   obtain ⟨x2, hx2, hb1⟩ := hb1
   refine lw_op Z Z Z (ow_call Z Z Tryd.call156 (w_laws_heldSpanS (hG.mono hl1) hC1.old hv3 hx2) fun v4 w2 hv4 => ?_)
   obtain ⟨hv4, hb2⟩ := hv4
   have hl2 := Le.no M1 hb2
   have hC2 := hC1.no hb2
   obtain rfl := vint_eq hv4
   refine lw_op Z Z Z (ow_assign Z Z (lw_nil (ew_then (cw_seq (cw_region (lw_op Z Z Z (ow_move Z Z (lw_op Z Z Z (ow_lss Z Z Z fun bb2 hbb2 => lw_nil (ew_then ?_))))))))))
   replace hb1 := cond_some hb1
   rcases hb1 with ⟨hc2, hb1⟩ | ⟨hc2, hb1⟩
   ·
    obtain rfl := hbb2.trans hc2
    refine cw_true Z (cw_seq (cw_region (lw_op Z Z Z (ow_assign Z Z (lw_nil (ew_then (cw_ret (ew_blockR (ew_thenR (ew_thenR (ew_blockR (ew_brkR (ew_thenR ?_)))))))))))))
    have e1 := hR1 _ (sj hb1).symm
    subst e1
    obtain rfl := sj h
    exact ew_ret (res1 Z (.tmp Z)) ⟨_, Z, ((vint _)), hC2.bx⟩
   ·
    obtain rfl := hbb2.trans hc2
    exact cw_false Z (cw_skip (ew_blockN (ew_then (cw_region (lw_op Z Z Z (ow_move Z Z (lw_op Z Z Z (ow_add Z Z Z (lw_op Z Z Z (ow_assign Z Z (lw_nil (ew_nxt (x2, (W (k2 + 1))) hb1 fun a ha => ⟨M1, (ha.sub ⟨Z, Z, Z, Zt⟩), (hl1.trans hl2), hC2⟩))))))))))))
  ·
   obtain rfl := hbb1.trans hc1
   exact cw_false Z (cw_exit (ew_thenX (ew_thenX (ew_blockX (ew_brk (k1, k2) hb1 fun a ha => ⟨M1, (ha.sub ⟨Z, Z, Z, Zt⟩), hl1, hC1⟩)))))
 ·
  rintro ⟨k3, k4⟩ a w3 hlr2 ⟨M2, hF2, hl3, hC3⟩
  subst hlr2
  refine ew_at (E := [(0, v0p), (1, (Zv k3)), (5, (Zv k4))]) hF2 (ew_then (cw_seq (cw_region (lw_op Z Z Z (ow_move Z Z (lw_op Z Z Z (ow_assign Z Z (lw_nil (ew_then (cw_ret ?_))))))))))
  obtain rfl := sj h
  exact ew_ret (res1 Z (.tmp Z)) ⟨_, Z, ((vint _)), hC3.bx⟩

theorem w_laws_heldBox {w : World} {M : Nat → Prop} (hG : ARep (RArr 4 RShape) w M shapes ⟨0, 0, none⟩) (hO : ∀ b, M b → b < w.heap.size) {v0p : Value} {a_a : Box} (h0 : VRep RBox w M a_a v0p) {a_k : Int} {r : Int} (h : F.laws_heldBox a_a a_k = some r) :
  Calls Tryd.prog 32 [v0p, (.int .i64 a_k)].toArray w fun e w' => ∃ v, e = .returned v ∧ VRep RInt w' M r v ∧ BX No w w' := by
 have hC : Cx No w M w M := Cx.start hO (fun _ e => e.elim)
 refine walk (N := 12) Tryd.func32 Z Tryd.ntmps32 Z (cw_seq (cw_region (lw_op Z Z Z (ow_box (R := RBox) Z Z h0 hC fun p1 w1 hp1 hb1 hl1 hC1 => lw_op Z Z Z (ow_assign Z Z (lw_nil (ew_then (cw_seq (cw_region (lw_op Z Z Z (ow_fieldAddr Z Z Tryd.underlying48 Z (Tryd.sizeOf46 _) (lw_op Z Z Z (ow_load (R := (RSlice (RSlice RSpan))) Z Z (hp1.fld fld_Box_Sides) (Tryd.sizeOf46 _) (Tryd.isAgg46 _) fun v1 hv1 => lw_op Z Z Z (ow_move Z Z ?_))))))))))))))
 replace h := bind_some h
 obtain ⟨x1, hx1, h⟩ := h
 refine lw_op Z Z Z (ow_call Z Z Tryd.call100 (w_laws_heldSpanSS (hG.mono hl1) hC1.old hv1 hx1) fun v2 w2 hv2 => ?_)
 obtain ⟨hv2, hb2⟩ := hv2
 have hC2 := hC1.no hb2
 obtain rfl := vint_eq hv2
 refine lw_op Z Z Z (ow_assign Z Z (lw_nil (ew_then (cw_seq (cw_seq (cw_region (lw_op Z Z Z (ow_move Z Z (lw_op Z Z Z (ow_lss Z Z Z fun bb1 hbb1 => lw_nil (ew_then ?_)))))))))))
 replace h := cond_some h
 rcases h with ⟨hc1, h⟩ | ⟨hc1, h⟩
 ·
  obtain rfl := hbb1.trans hc1
  refine cw_true Z (cw_seq (cw_region (lw_op Z Z Z (ow_assign Z Z (lw_nil (ew_then (cw_ret (ew_thenR ?_))))))))
  obtain rfl := sj h
  exact ew_ret (res1 Z (.tmp Z)) ⟨_, Z, ((vint _)), hC2.bx⟩
 ·
  obtain rfl := hbb1.trans hc1
  refine cw_false Z (cw_skip (ew_then (cw_seq (cw_region (lw_op Z Z Z (ow_move Z Z (lw_op Z Z Z (ow_assign Z Z (lw_nil (ew_then (cw_ret ?_)))))))))))
  obtain rfl := sj h
  exact ew_ret (res1 Z (.tmp Z)) ⟨_, Z, ((vint _)), hC2.bx⟩

theorem w_laws_szTestS {w : World} {M : Nat → Prop} (_hG : ARep (RArr 4 RShape) w M shapes ⟨0, 0, none⟩) (hO : ∀ b, M b → b < w.heap.size) {v0p : Value} {a_a : List Test} (h0 : VRep (RSlice RTest) w M a_a v0p) {a_left : Int} {r : Int} (h : F.laws_szTestS a_a a_left = some r) :
  Calls Tryd.prog 33 [v0p, (.int .i64 a_left)].toArray w fun e w' => ∃ v, e = .returned v ∧ VRep RInt w' M r v ∧ BX No w w' := by
 have hC : Cx No w M w M := Cx.start hO (fun _ e => e.elim)
 clear _hG
 refine walk (N := 12) Tryd.func33 Z Tryd.ntmps33 Z (cw_seq (cw_region (lw_op Z Z Z (ow_assign Z Z (lw_nil (ew_then (cw_seq (cw_region (lw_op Z Z Z (ow_move Z Z (lw_op Z Z Z (ow_move Z Z (lw_op Z Z Z (ow_len Z Z h0 Tryd.underlying57 Z (lw_op Z Z Z (ow_sub Z Z Z (lw_op Z Z Z (ow_assign Z Z (lw_nil (ew_then (cw_seq (cw_seq (cw_region (lw_op Z Z Z (ow_move Z Z (lw_op Z Z Z (ow_lss Z Z Z fun bb1 hbb1 => lw_nil (ew_then ?_))))))))))))))))))))))))))))
 replace h := cond_some h
 rcases h with ⟨hc1, h⟩ | ⟨hc1, h⟩
 ·
  obtain rfl := hbb1.trans hc1
  refine cw_true Z (cw_seq (cw_region (lw_op Z Z Z (ow_assign Z Z (lw_nil (ew_then (cw_ret (ew_thenR ?_))))))))
  obtain rfl := sj h
  exact ew_ret (res1 Z (.tmp Z)) ⟨_, Z, ((vint _)), hC.bx⟩
 ·
  obtain rfl := hbb1.trans hc1
  refine cw_false Z (cw_skip (ew_then (cw_seq (cw_region (lw_op Z Z Z (ow_move Z Z (lw_op Z Z Z (ow_assign Z Z (lw_nil (ew_then (cw_ret ?_)))))))))))
  obtain rfl := sj h
  exact ew_ret (res1 Z (.tmp Z)) ⟨_, Z, ((vint _)), hC.bx⟩

theorem w_spec_l1In {w : World} {M : Nat → Prop} (_hG : ARep (RArr 4 RShape) w M shapes ⟨0, 0, none⟩) (hO : ∀ b, M b → b < w.heap.size) {a_n : Int} {a_lo : Int} {a_hi : Int} {r : Bool} (h : F.spec_l1In a_n a_lo a_hi = some r) :
  Calls Tryd.prog 118 [(.int .i64 a_n), (.int .i64 a_lo), (.int .i64 a_hi)].toArray w fun e w' => ∃ v, e = .returned v ∧ VRep RBool w' M r v ∧ BX No w w' := by
 have hC : Cx No w M w M := Cx.start hO (fun _ e => e.elim)
 clear _hG
 refine walk (N := 15) Tryd.func118 Z Tryd.ntmps118 Z (cw_seq (cw_region (lw_op Z Z Z (ow_assign Z Z (lw_nil (ew_then (cw_seq (cw_region (lw_op Z Z Z (ow_move Z Z (lw_op Z Z Z (ow_move Z Z (lw_op Z Z Z (ow_geq Z Z Z fun bb1 hbb1 => lw_op Z Z Z (ow_move Z Z ?_)))))))))))))))
 replace h := cond_some h
 rcases h with ⟨hc1, h⟩ | ⟨hc1, h⟩
 ·
  obtain rfl := hbb1.trans hc1
  refine lw_on Z Z Z Z Z Z (ow_move Z Z (lw_on Z Z Z Z Z Z (ow_move Z Z (lw_on Z Z Z Z Z Z (ow_leq Z Z Z fun bb2 hbb2 => lw_op Z Z Z (ow_pickT Z Z Z (lw_op Z Z Z (ow_assign Z Z (lw_nil (ew_then (cw_ret ?_)))))))))))
  obtain rfl := sj h
  exact ew_ret (res1 Z (.tmp Z)) ⟨_, Z, ((vbool_of hbb2)), hC.bx⟩
 ·
  obtain rfl := hbb1.trans hc1
  refine lw_off Z Z Z Z Z Z (lw_off Z Z Z Z Z Z (lw_off Z Z Z Z Z Z (lw_op Z Z Z (ow_pickF Z Z Z (lw_op Z Z Z (ow_assign Z Z (lw_nil (ew_then (cw_ret ?_)))))))))
  obtain rfl := sj h
  exact ew_ret (res1 Z (.tmp Z)) ⟨_, Z, ((vbool _)), hC.bx⟩

theorem w_spec_FieldTop {w : World} {M : Nat → Prop} (_hG : ARep (RArr 4 RShape) w M shapes ⟨0, 0, none⟩) (hO : ∀ b, M b → b < w.heap.size) {a_n : Int} {r : Int} (h : F.spec_FieldTop a_n = some r) :
  Calls Tryd.prog 88 [(.int .i64 a_n)].toArray w fun e w' => ∃ v, e = .returned v ∧ VRep RInt w' M r v ∧ BX No w w' := by
 have hC : Cx No w M w M := Cx.start hO (fun _ e => e.elim)
 clear _hG
 refine walk (N := 11) Tryd.func88 Z Tryd.ntmps88 Z (cw_seq (cw_region (lw_op Z Z Z (ow_assign Z Z (lw_nil (ew_then (cw_seq (cw_seq (cw_region (lw_op Z Z Z (ow_move Z Z (lw_nil (ew_then (cw_block (cw_seq (cw_seq (cw_region (lw_op Z Z Z (ow_eqlI Z Z Z fun bb1 hbb1 => lw_op Z Z Z (ow_assign Z Z (lw_nil (ew_then ?_))))))))))))))))))))))
 replace h := cond_some h
 rcases h with ⟨hc1, h⟩ | ⟨hc1, h⟩
 ·
  obtain rfl := hbb1.trans hc1
  refine cw_true Z (cw_skip (ew_then (cw_true Z (cw_seq (cw_region (lw_op Z Z Z (ow_assign Z Z (lw_nil (ew_then (cw_ret (ew_blockR (ew_thenR ?_))))))))))))
  obtain rfl := sj h
  exact ew_ret (res1 Z (.tmp Z)) ⟨_, Z, ((vint _)), hC.bx⟩
 ·
  obtain rfl := hbb1.trans hc1
  refine cw_false Z (cw_region (lw_op Z Z Z (ow_eqlI Z Z Z fun bb2 hbb2 => lw_op Z Z Z (ow_assign Z Z (lw_nil (ew_then ?_))))))
  replace h := cond_some h
  rcases h with ⟨hc2, h⟩ | ⟨hc2, h⟩
  ·
   obtain rfl := hbb2.trans hc2
   refine cw_true Z (cw_seq (cw_region (lw_op Z Z Z (ow_assign Z Z (lw_nil (ew_then (cw_ret (ew_blockR (ew_thenR ?_)))))))))
   obtain rfl := sj h
   exact ew_ret (res1 Z (.tmp Z)) ⟨_, Z, ((vint _)), hC.bx⟩
  ·
   obtain rfl := hbb2.trans hc2
   refine cw_false Z (cw_seq (cw_region (lw_op Z Z Z (ow_eqlI Z Z Z fun bb3 hbb3 => lw_op Z Z Z (ow_assign Z Z (lw_nil (ew_then ?_)))))))
   replace h := cond_some h
   rcases h with ⟨hc3, h⟩ | ⟨hc3, h⟩
   ·
    obtain rfl := hbb3.trans hc3
    refine cw_true Z (cw_seq (cw_region (lw_op Z Z Z (ow_assign Z Z (lw_nil (ew_then (cw_ret (ew_blockR (ew_thenR ?_)))))))))
    obtain rfl := sj h
    exact ew_ret (res1 Z (.tmp Z)) ⟨_, Z, ((vint _)), hC.bx⟩
   ·
    obtain rfl := hbb3.trans hc3
    refine cw_false Z (cw_seq (cw_region (lw_op Z Z Z (ow_eqlI Z Z Z fun bb4 hbb4 => lw_op Z Z Z (ow_assign Z Z (lw_nil (ew_then ?_)))))))
    replace h := cond_some h
    rcases h with ⟨hc4, h⟩ | ⟨hc4, h⟩
    ·
     obtain rfl := hbb4.trans hc4
     refine cw_true Z (cw_seq (cw_region (lw_op Z Z Z (ow_assign Z Z (lw_nil (ew_then (cw_ret (ew_blockR (ew_thenR ?_)))))))))
     obtain rfl := sj h
     exact ew_ret (res1 Z (.tmp Z)) ⟨_, Z, ((vint _)), hC.bx⟩
    ·
     obtain rfl := hbb4.trans hc4
     refine cw_false Z (cw_skip (ew_blockN (ew_then (cw_seq (cw_region (lw_op Z Z Z (ow_assign Z Z (lw_nil (ew_then (cw_ret ?_))))))))))
     obtain rfl := sj h
     exact ew_ret (res1 Z (.tmp Z)) ⟨_, Z, ((vint _)), hC.bx⟩

theorem w_spec_TestValid {w : World} {M : Nat → Prop} (hG : ARep (RArr 4 RShape) w M shapes ⟨0, 0, none⟩) (hO : ∀ b, M b → b < w.heap.size) {v0p : Value} {a_t : Test} (h0 : VRep RTest w M a_t v0p) {r : Bool} (h : F.spec_TestValid a_t = some r) :
  Calls Tryd.prog 157 [v0p].toArray w fun e w' => ∃ v, e = .returned v ∧ VRep RBool w' M r v ∧ BX No w w' := by
 have hC : Cx No w M w M := Cx.start hO (fun _ e => e.elim)
 refine walk (N := 21) Tryd.func157 Z Tryd.ntmps157 Z (cw_seq (cw_region (lw_op Z Z Z (ow_box (R := RTest) Z Z h0 hC fun p1 w1 hp1 hb1 hl1 hC1 => lw_op Z Z Z (ow_assign Z Z (lw_nil (ew_then (cw_seq ?_))))))))
 replace h := bind_some h
 obtain ⟨x1, hx1, h⟩ := h
 replace h := cond_some h
 rcases h with ⟨hc1, h⟩ | ⟨hc1, h⟩
 ·
  subst hc1
  replace h := bind_some h
  obtain ⟨x2, hx2, h⟩ := h
  replace h := cond_some h
  rcases h with ⟨hc2, h⟩ | ⟨hc2, h⟩
  ·
   subst hc2
   replace h := bind_some h
   obtain ⟨x3, hx3, h⟩ := h
   refine cw_sub (E' := [(1, (.pointer (some p1))), (2, (.bool false))]) ⟨Z, Z, Zt⟩ (cw_drawQ 16 [PA RInt M a_t.Field, PEq (Zv a_t.Field), PEq (.bool true), PEq (.bool true), PA RInt M a_t.Lo, PEq (Zv a_t.Lo), PA RInt M a_t.Hi, PEq (Zv a_t.Hi), PEq (.bool true), PEq (.bool true), PEq (.bool true), PA RInt M a_t.Hi, PEq (Zv a_t.Hi), PA RInt M a_t.Field, PEq (Zv a_t.Field), PEq (Zv x3)] (by kernel_rfl) Z (by kernel_rfl) ⟨PA.mono _ _ _, Zq, Zq, Zq, PA.mono _ _ _, Zq, PA.mono _ _ _, Zq, Zq, Zq, Zq, PA.mono _ _ _, Zq, PA.mono _ _ _, Zq, Zq, Zt⟩ ⟨?_, ?_, ?_, ?_, ?_, ?_, ?_, ?_, ?_, ?_, ?_, ?_, ?_, ?_, ?_, ?_, Zt⟩ ?_)
   ·
    intro w5 D hS1 hd1
    have hl5 := Le.no M hS1
    exact dg_sub (E' := [(1, (.pointer (some p1)))]) ⟨Z, Zt⟩ (dg_plain Z (ow_fieldAddr Z Z Tryd.underlying128 Z (Tryd.sizeOf3 _) ⟨BX.refl _ _, ⟨_, Z, (ARep.mono hl5 (hp1.fld fld_Test_Field))⟩⟩))
   ·
    intro w6 D hS2 hd2
    have d1 : PA RInt M a_t.Field (D 0) w6 := dpA hd2 0 Z
    obtain ⟨p2, e1, ha1⟩ := d1
    refine dg_sub (E' := [(3, (.pointer (some p2)))]) ⟨congrArg some e1, Zt⟩ (dg_plain Z (ow_load (R := RInt) Z Z ha1 (Tryd.sizeOf3 _) (Tryd.isAgg3 _) fun v9 hv9 => ?_))
    obtain rfl := vint_eq hv9
    exact Zb
   ·
    intro w7 D hS3 hd3
    have hl7 := Le.no M hS3
    have hC7 := hC1.no hS3
    refine dg_sub (E' := [(4, (Zv a_t.Field))]) ⟨dpE hd3 1 Z Z, Zt⟩ (dg_plain Z (ow_call Z Z Tryd.call118 (w_spec_l1In (hG.mono (hl1.trans hl7)) hC7.old hx1) fun v10 w8 hv10 => ?_))
    obtain ⟨hv10, hb5⟩ := hv10
    obtain rfl := vbool_eq hv10
    exact ⟨hb5, Z⟩
   · exact fun w9 D hS4 hd4 => dg_sub (E' := [(5, (.bool true))]) ⟨dpE hd4 2 Z Z, Zt⟩ (dg_plain Z (ow_move Z Z Zb))
   ·
    intro w10 D hS5 hd5
    have hl10 := Le.no M hS5
    exact dg_sub (E' := [(6, (.bool true)), (1, (.pointer (some p1)))]) ⟨dpE hd5 3 Z Z, Z, Zt⟩ (dg_on Z Z Z Z (ow_fieldAddr Z Z Tryd.underlying128 Z (Tryd.sizeOf3 _) ⟨BX.refl _ _, ⟨_, Z, (ARep.mono hl10 (hp1.fld fld_Test_Lo))⟩⟩))
   ·
    intro w11 D hS6 hd6
    have d6 : PA RInt M a_t.Lo (D 4) w11 := dpA hd6 4 Z
    obtain ⟨p3, e2, ha2⟩ := d6
    refine dg_sub (E' := [(7, (.pointer (some p3))), (6, (.bool true))]) ⟨congrArg some e2, dpE hd6 3 Z Z, Zt⟩ (dg_on Z Z Z Z (ow_load (R := RInt) Z Z ha2 (Tryd.sizeOf3 _) (Tryd.isAgg3 _) fun v11 hv11 => ?_))
    obtain rfl := vint_eq hv11
    exact Zb
   ·
    intro w12 D hS7 hd7
    have hl12 := Le.no M hS7
    exact dg_sub (E' := [(6, (.bool true)), (1, (.pointer (some p1)))]) ⟨dpE hd7 3 Z Z, Z, Zt⟩ (dg_on Z Z Z Z (ow_fieldAddr Z Z Tryd.underlying128 Z (Tryd.sizeOf3 _) ⟨BX.refl _ _, ⟨_, Z, (ARep.mono hl12 (hp1.fld fld_Test_Hi))⟩⟩))
   ·
    intro w13 D hS8 hd8
    have d9 : PA RInt M a_t.Hi (D 6) w13 := dpA hd8 6 Z
    obtain ⟨p4, e3, ha3⟩ := d9
    refine dg_sub (E' := [(9, (.pointer (some p4))), (6, (.bool true))]) ⟨congrArg some e3, dpE hd8 3 Z Z, Zt⟩ (dg_on Z Z Z Z (ow_load (R := RInt) Z Z ha3 (Tryd.sizeOf3 _) (Tryd.isAgg3 _) fun v12 hv12 => ?_))
    obtain rfl := vint_eq hv12
    exact Zb
   ·
    intro w14 D hS9 hd9
    have hl14 := Le.no M hS9
    have hC14 := hC1.no hS9
    refine dg_sub (E' := [(8, (Zv a_t.Lo)), (10, (Zv a_t.Hi)), (6, (.bool true))]) ⟨dpE hd9 5 Z Z, dpE hd9 7 Z Z, dpE hd9 3 Z Z, Zt⟩ (dg_on Z Z Z Z (ow_call Z Z Tryd.call118 (w_spec_l1In (hG.mono (hl1.trans hl14)) hC14.old hx2) fun v13 w15 hv13 => ?_))
    obtain ⟨hv13, hb6⟩ := hv13
    obtain rfl := vbool_eq hv13
    exact ⟨hb6, Z⟩
   · exact fun w16 D hS10 hd10 => dg_sub (E' := [(6, (.bool true)), (11, (.bool true))]) ⟨dpE hd10 3 Z Z, dpE hd10 8 Z Z, Zt⟩ (dg_plain Z (ow_pickT Z Z Z Zb))
   · exact fun w17 D hS11 hd11 => dg_sub (E' := [(12, (.bool true))]) ⟨dpE hd11 9 Z Z, Zt⟩ (dg_plain Z (ow_move Z Z Zb))
   ·
    intro w18 D hS12 hd12
    have hl18 := Le.no M hS12
    exact dg_sub (E' := [(13, (.bool true)), (1, (.pointer (some p1)))]) ⟨dpE hd12 10 Z Z, Z, Zt⟩ (dg_on Z Z Z Z (ow_fieldAddr Z Z Tryd.underlying128 Z (Tryd.sizeOf3 _) ⟨BX.refl _ _, ⟨_, Z, (ARep.mono hl18 (hp1.fld fld_Test_Hi))⟩⟩))
   ·
    intro w19 D hS13 hd13
    have d20 : PA RInt M a_t.Hi (D 11) w19 := dpA hd13 11 Z
    obtain ⟨p5, e4, ha4⟩ := d20
    refine dg_sub (E' := [(14, (.pointer (some p5))), (13, (.bool true))]) ⟨congrArg some e4, dpE hd13 10 Z Z, Zt⟩ (dg_on Z Z Z Z (ow_load (R := RInt) Z Z ha4 (Tryd.sizeOf3 _) (Tryd.isAgg3 _) fun v14 hv14 => ?_))
    obtain rfl := vint_eq hv14
    exact Zb
   ·
    intro w20 D hS14 hd14
    have hl20 := Le.no M hS14
    exact dg_sub (E' := [(13, (.bool true)), (1, (.pointer (some p1)))]) ⟨dpE hd14 10 Z Z, Z, Zt⟩ (dg_on Z Z Z Z (ow_fieldAddr Z Z Tryd.underlying128 Z (Tryd.sizeOf3 _) ⟨BX.refl _ _, ⟨_, Z, (ARep.mono hl20 (hp1.fld fld_Test_Field))⟩⟩))
   ·
    intro w21 D hS15 hd15
    have d23 : PA RInt M a_t.Field (D 13) w21 := dpA hd15 13 Z
    obtain ⟨p6, e5, ha5⟩ := d23
    refine dg_sub (E' := [(16, (.pointer (some p6))), (13, (.bool true))]) ⟨congrArg some e5, dpE hd15 10 Z Z, Zt⟩ (dg_on Z Z Z Z (ow_load (R := RInt) Z Z ha5 (Tryd.sizeOf3 _) (Tryd.isAgg3 _) fun v15 hv15 => ?_))
    obtain rfl := vint_eq hv15
    exact Zb
   ·
    intro w22 D hS16 hd16
    have hl22 := Le.no M hS16
    have hC22 := hC1.no hS16
    refine dg_sub (E' := [(17, (Zv a_t.Field)), (13, (.bool true))]) ⟨dpE hd16 14 Z Z, dpE hd16 10 Z Z, Zt⟩ (dg_on Z Z Z Z (ow_call Z Z Tryd.call88 (w_spec_FieldTop (hG.mono (hl1.trans hl22)) hC22.old hx3) fun v16 w23 hv16 => ?_))
    obtain ⟨hv16, hb7⟩ := hv16
    obtain rfl := vint_eq hv16
    exact ⟨hb7, Z⟩
   ·
    intro w24 D hS17 hd17
    have hC24 := hC1.no hS17
    refine lw_sub (E' := [(13, (.bool true)), (15, (Zv a_t.Hi)), (18, (Zv x3)), (1, (.pointer (some p1))), (2, (.bool false))]) ⟨dpE hd17 10 Z Z, dpE hd17 12 Z Z, dpE hd17 15 Z Z, Z, Z, Zt⟩ (lw_on Z Z Z Z Z Z (ow_leq Z Z Z fun bb1 hbb1 => lw_op Z Z Z (ow_pickT Z Z Z (lw_op Z Z Z (ow_assign Z Z (lw_nil (ew_then (cw_ret ?_))))))))
    obtain rfl := sj h
    exact ew_ret (res1 Z (.tmp Z)) ⟨_, Z, ((vbool_of hbb1)), hC24.bx⟩
  ·
   subst hc2
   refine cw_sub (E' := [(1, (.pointer (some p1))), (2, (.bool false))]) ⟨Z, Z, Zt⟩ (cw_drawQ 16 [PA RInt M a_t.Field, PEq (Zv a_t.Field), PEq (.bool true), PEq (.bool true), PA RInt M a_t.Lo, PEq (Zv a_t.Lo), PA RInt M a_t.Hi, PEq (Zv a_t.Hi), PEq (.bool false), PEq (.bool false), PEq (.bool false), PEq undef, PEq undef, PEq undef, PEq undef, PEq undef] (by kernel_rfl) Z (by kernel_rfl) ⟨PA.mono _ _ _, Zq, Zq, Zq, PA.mono _ _ _, Zq, PA.mono _ _ _, Zq, Zq, Zq, Zq, Zq, Zq, Zq, Zq, Zq, Zt⟩ ⟨?_, ?_, ?_, ?_, ?_, ?_, ?_, ?_, ?_, ?_, ?_, ?_, ?_, ?_, ?_, ?_, Zt⟩ ?_)
   ·
    intro w25 D hS18 hd18
    have hl25 := Le.no M hS18
    exact dg_sub (E' := [(1, (.pointer (some p1)))]) ⟨Z, Zt⟩ (dg_plain Z (ow_fieldAddr Z Z Tryd.underlying128 Z (Tryd.sizeOf3 _) ⟨BX.refl _ _, ⟨_, Z, (ARep.mono hl25 (hp1.fld fld_Test_Field))⟩⟩))
   ·
    intro w26 D hS19 hd19
    have d44 : PA RInt M a_t.Field (D 0) w26 := dpA hd19 0 Z
    obtain ⟨p7, e6, ha6⟩ := d44
    refine dg_sub (E' := [(3, (.pointer (some p7)))]) ⟨congrArg some e6, Zt⟩ (dg_plain Z (ow_load (R := RInt) Z Z ha6 (Tryd.sizeOf3 _) (Tryd.isAgg3 _) fun v17 hv17 => ?_))
    obtain rfl := vint_eq hv17
    exact Zb
   ·
    intro w27 D hS20 hd20
    have hl27 := Le.no M hS20
    have hC27 := hC1.no hS20
    refine dg_sub (E' := [(4, (Zv a_t.Field))]) ⟨dpE hd20 1 Z Z, Zt⟩ (dg_plain Z (ow_call Z Z Tryd.call118 (w_spec_l1In (hG.mono (hl1.trans hl27)) hC27.old hx1) fun v18 w28 hv18 => ?_))
    obtain ⟨hv18, hb8⟩ := hv18
    obtain rfl := vbool_eq hv18
    exact ⟨hb8, Z⟩
   · exact fun w29 D hS21 hd21 => dg_sub (E' := [(5, (.bool true))]) ⟨dpE hd21 2 Z Z, Zt⟩ (dg_plain Z (ow_move Z Z Zb))
   ·
    intro w30 D hS22 hd22
    have hl30 := Le.no M hS22
    exact dg_sub (E' := [(6, (.bool true)), (1, (.pointer (some p1)))]) ⟨dpE hd22 3 Z Z, Z, Zt⟩ (dg_on Z Z Z Z (ow_fieldAddr Z Z Tryd.underlying128 Z (Tryd.sizeOf3 _) ⟨BX.refl _ _, ⟨_, Z, (ARep.mono hl30 (hp1.fld fld_Test_Lo))⟩⟩))
   ·
    intro w31 D hS23 hd23
    have d49 : PA RInt M a_t.Lo (D 4) w31 := dpA hd23 4 Z
    obtain ⟨p8, e7, ha7⟩ := d49
    refine dg_sub (E' := [(7, (.pointer (some p8))), (6, (.bool true))]) ⟨congrArg some e7, dpE hd23 3 Z Z, Zt⟩ (dg_on Z Z Z Z (ow_load (R := RInt) Z Z ha7 (Tryd.sizeOf3 _) (Tryd.isAgg3 _) fun v19 hv19 => ?_))
    obtain rfl := vint_eq hv19
    exact Zb
   ·
    intro w32 D hS24 hd24
    have hl32 := Le.no M hS24
    exact dg_sub (E' := [(6, (.bool true)), (1, (.pointer (some p1)))]) ⟨dpE hd24 3 Z Z, Z, Zt⟩ (dg_on Z Z Z Z (ow_fieldAddr Z Z Tryd.underlying128 Z (Tryd.sizeOf3 _) ⟨BX.refl _ _, ⟨_, Z, (ARep.mono hl32 (hp1.fld fld_Test_Hi))⟩⟩))
   ·
    intro w33 D hS25 hd25
    have d52 : PA RInt M a_t.Hi (D 6) w33 := dpA hd25 6 Z
    obtain ⟨p9, e8, ha8⟩ := d52
    refine dg_sub (E' := [(9, (.pointer (some p9))), (6, (.bool true))]) ⟨congrArg some e8, dpE hd25 3 Z Z, Zt⟩ (dg_on Z Z Z Z (ow_load (R := RInt) Z Z ha8 (Tryd.sizeOf3 _) (Tryd.isAgg3 _) fun v20 hv20 => ?_))
    obtain rfl := vint_eq hv20
    exact Zb
   ·
    intro w34 D hS26 hd26
    have hl34 := Le.no M hS26
    have hC34 := hC1.no hS26
    refine dg_sub (E' := [(8, (Zv a_t.Lo)), (10, (Zv a_t.Hi)), (6, (.bool true))]) ⟨dpE hd26 5 Z Z, dpE hd26 7 Z Z, dpE hd26 3 Z Z, Zt⟩ (dg_on Z Z Z Z (ow_call Z Z Tryd.call118 (w_spec_l1In (hG.mono (hl1.trans hl34)) hC34.old hx2) fun v21 w35 hv21 => ?_))
    obtain ⟨hv21, hb9⟩ := hv21
    obtain rfl := vbool_eq hv21
    exact ⟨hb9, Z⟩
   · exact fun w36 D hS27 hd27 => dg_sub (E' := [(6, (.bool true)), (11, (.bool false))]) ⟨dpE hd27 3 Z Z, dpE hd27 8 Z Z, Zt⟩ (dg_plain Z (ow_pickT Z Z Z Zb))
   · exact fun w37 D hS28 hd28 => dg_sub (E' := [(12, (.bool false))]) ⟨dpE hd28 9 Z Z, Zt⟩ (dg_plain Z (ow_move Z Z Zb))
   · exact fun w38 D hS29 hd29 => dg_sub (E' := [(13, (.bool false)), (1, (.pointer (some p1)))]) ⟨dpE hd29 10 Z Z, Z, Zt⟩ (dg_off Z Z Z Z Zb)
   · exact fun w39 D hS30 hd30 => dg_sub (E' := [(14, undef), (13, (.bool false))]) ⟨dpE hd30 11 Z Z, dpE hd30 10 Z Z, Zt⟩ (dg_off Z Z Z Z Zb)
   · exact fun w40 D hS31 hd31 => dg_sub (E' := [(13, (.bool false)), (1, (.pointer (some p1)))]) ⟨dpE hd31 10 Z Z, Z, Zt⟩ (dg_off Z Z Z Z Zb)
   · exact fun w41 D hS32 hd32 => dg_sub (E' := [(16, undef), (13, (.bool false))]) ⟨dpE hd32 13 Z Z, dpE hd32 10 Z Z, Zt⟩ (dg_off Z Z Z Z Zb)
   · exact fun w42 D hS33 hd33 => dg_sub (E' := [(17, undef), (13, (.bool false))]) ⟨dpE hd33 14 Z Z, dpE hd33 10 Z Z, Zt⟩ (dg_off Z Z Z Z Zb)
   ·
    intro w43 D hS34 hd34
    have hC43 := hC1.no hS34
    refine lw_sub (E' := [(13, (.bool false)), (15, undef), (18, undef), (1, (.pointer (some p1))), (2, (.bool false))]) ⟨dpE hd34 10 Z Z, dpE hd34 12 Z Z, dpE hd34 15 Z Z, Z, Z, Zt⟩ (lw_off Z Z Z Z Z Z (lw_op Z Z Z (ow_pickF Z Z Z (lw_op Z Z Z (ow_assign Z Z (lw_nil (ew_then (cw_ret ?_))))))))
    obtain rfl := sj h
    exact ew_ret (res1 Z (.tmp Z)) ⟨_, Z, ((vbool _)), hC43.bx⟩
 ·
  subst hc1
  refine cw_sub (E' := [(1, (.pointer (some p1))), (2, (.bool false))]) ⟨Z, Z, Zt⟩ (cw_drawQ 16 [PA RInt M a_t.Field, PEq (Zv a_t.Field), PEq (.bool false), PEq (.bool false), PEq undef, PEq undef, PEq undef, PEq undef, PEq undef, PEq (.bool false), PEq (.bool false), PEq undef, PEq undef, PEq undef, PEq undef, PEq undef] (by kernel_rfl) Z (by kernel_rfl) ⟨PA.mono _ _ _, Zq, Zq, Zq, Zq, Zq, Zq, Zq, Zq, Zq, Zq, Zq, Zq, Zq, Zq, Zq, Zt⟩ ⟨?_, ?_, ?_, ?_, ?_, ?_, ?_, ?_, ?_, ?_, ?_, ?_, ?_, ?_, ?_, ?_, Zt⟩ ?_)
  ·
   intro w44 D hS35 hd35
   have hl44 := Le.no M hS35
   exact dg_sub (E' := [(1, (.pointer (some p1)))]) ⟨Z, Zt⟩ (dg_plain Z (ow_fieldAddr Z Z Tryd.underlying128 Z (Tryd.sizeOf3 _) ⟨BX.refl _ _, ⟨_, Z, (ARep.mono hl44 (hp1.fld fld_Test_Field))⟩⟩))
  ·
   intro w45 D hS36 hd36
   have d87 : PA RInt M a_t.Field (D 0) w45 := dpA hd36 0 Z
   obtain ⟨p10, e9, ha9⟩ := d87
   refine dg_sub (E' := [(3, (.pointer (some p10)))]) ⟨congrArg some e9, Zt⟩ (dg_plain Z (ow_load (R := RInt) Z Z ha9 (Tryd.sizeOf3 _) (Tryd.isAgg3 _) fun v22 hv22 => ?_))
   obtain rfl := vint_eq hv22
   exact Zb
  ·
   intro w46 D hS37 hd37
   have hl46 := Le.no M hS37
   have hC46 := hC1.no hS37
   refine dg_sub (E' := [(4, (Zv a_t.Field))]) ⟨dpE hd37 1 Z Z, Zt⟩ (dg_plain Z (ow_call Z Z Tryd.call118 (w_spec_l1In (hG.mono (hl1.trans hl46)) hC46.old hx1) fun v23 w47 hv23 => ?_))
   obtain ⟨hv23, hb10⟩ := hv23
   obtain rfl := vbool_eq hv23
   exact ⟨hb10, Z⟩
  · exact fun w48 D hS38 hd38 => dg_sub (E' := [(5, (.bool false))]) ⟨dpE hd38 2 Z Z, Zt⟩ (dg_plain Z (ow_move Z Z Zb))
  · exact fun w49 D hS39 hd39 => dg_sub (E' := [(6, (.bool false)), (1, (.pointer (some p1)))]) ⟨dpE hd39 3 Z Z, Z, Zt⟩ (dg_off Z Z Z Z Zb)
  · exact fun w50 D hS40 hd40 => dg_sub (E' := [(7, undef), (6, (.bool false))]) ⟨dpE hd40 4 Z Z, dpE hd40 3 Z Z, Zt⟩ (dg_off Z Z Z Z Zb)
  · exact fun w51 D hS41 hd41 => dg_sub (E' := [(6, (.bool false)), (1, (.pointer (some p1)))]) ⟨dpE hd41 3 Z Z, Z, Zt⟩ (dg_off Z Z Z Z Zb)
  · exact fun w52 D hS42 hd42 => dg_sub (E' := [(9, undef), (6, (.bool false))]) ⟨dpE hd42 6 Z Z, dpE hd42 3 Z Z, Zt⟩ (dg_off Z Z Z Z Zb)
  · exact fun w53 D hS43 hd43 => dg_sub (E' := [(8, undef), (10, undef), (6, (.bool false))]) ⟨dpE hd43 5 Z Z, dpE hd43 7 Z Z, dpE hd43 3 Z Z, Zt⟩ (dg_off Z Z Z Z Zb)
  · exact fun w54 D hS44 hd44 => dg_sub (E' := [(6, (.bool false)), (11, undef)]) ⟨dpE hd44 3 Z Z, dpE hd44 8 Z Z, Zt⟩ (dg_plain Z (ow_pickF Z Z Z Zb))
  · exact fun w55 D hS45 hd45 => dg_sub (E' := [(12, (.bool false))]) ⟨dpE hd45 9 Z Z, Zt⟩ (dg_plain Z (ow_move Z Z Zb))
  · exact fun w56 D hS46 hd46 => dg_sub (E' := [(13, (.bool false)), (1, (.pointer (some p1)))]) ⟨dpE hd46 10 Z Z, Z, Zt⟩ (dg_off Z Z Z Z Zb)
  · exact fun w57 D hS47 hd47 => dg_sub (E' := [(14, undef), (13, (.bool false))]) ⟨dpE hd47 11 Z Z, dpE hd47 10 Z Z, Zt⟩ (dg_off Z Z Z Z Zb)
  · exact fun w58 D hS48 hd48 => dg_sub (E' := [(13, (.bool false)), (1, (.pointer (some p1)))]) ⟨dpE hd48 10 Z Z, Z, Zt⟩ (dg_off Z Z Z Z Zb)
  · exact fun w59 D hS49 hd49 => dg_sub (E' := [(16, undef), (13, (.bool false))]) ⟨dpE hd49 13 Z Z, dpE hd49 10 Z Z, Zt⟩ (dg_off Z Z Z Z Zb)
  · exact fun w60 D hS50 hd50 => dg_sub (E' := [(17, undef), (13, (.bool false))]) ⟨dpE hd50 14 Z Z, dpE hd50 10 Z Z, Zt⟩ (dg_off Z Z Z Z Zb)
  ·
   intro w61 D hS51 hd51
   have hC61 := hC1.no hS51
   refine lw_sub (E' := [(13, (.bool false)), (15, undef), (18, undef), (1, (.pointer (some p1))), (2, (.bool false))]) ⟨dpE hd51 10 Z Z, dpE hd51 12 Z Z, dpE hd51 15 Z Z, Z, Z, Zt⟩ (lw_off Z Z Z Z Z Z (lw_op Z Z Z (ow_pickF Z Z Z (lw_op Z Z Z (ow_assign Z Z (lw_nil (ew_then (cw_ret ?_))))))))
   obtain rfl := sj h
   exact ew_ret (res1 Z (.tmp Z)) ⟨_, Z, ((vbool _)), hC61.bx⟩

theorem w_spec_TestsValid {w : World} {M : Nat → Prop} (hG : ARep (RArr 4 RShape) w M shapes ⟨0, 0, none⟩) (hO : ∀ b, M b → b < w.heap.size) {v0p : Value} {a_list : List Test} (h0 : VRep (RSlice RTest) w M a_list v0p) {r : Bool} (h : F.spec_TestsValid a_list = some r) :
  Calls Tryd.prog 101 [v0p].toArray w fun e w' => ∃ v, e = .returned v ∧ VRep RBool w' M r v ∧ BX No w w' := by
 have hC : Cx No w M w M := Cx.start hO (fun _ e => e.elim)
 refine walk (N := 19) Tryd.func101 Z Tryd.ntmps101 Z (cw_seq (cw_region (lw_op Z Z Z (ow_assign Z Z (lw_nil (ew_then (cw_seq (cw_seq (cw_region (lw_op Z Z Z (ow_assign Z Z (lw_nil (ew_then ?_)))))))))))))
 replace h := bind_some h
 obtain ⟨lr1, hlr1, h⟩ := h
 refine cw_for hlr1 (fun s a w' => ∃ (M' : Nat → Prop), Fits 19 [(0, v0p), (3, (Zv s))] a ∧ Le w M w' M' ∧ Cx No w M w' M') ?_ ?_ ?_
 · exact fun a ha => ⟨M, ha.sub ⟨Z, Z, Zt⟩, Le.refl _ _, hC⟩
 ·
  rintro k1 a w1 sr1 ⟨M1, hF1, hl1, hC1⟩ hb1 hR1
  refine cw_at (E := [(0, v0p), (3, (Zv k1))]) hF1 (cw_seq (cw_seq (cw_region (lw_op Z Z Z (ow_move Z Z (lw_op Z Z Z (ow_move Z Z (lw_op Z Z Z (ow_len Z Z (VRep.mono hl1 h0) Tryd.underlying36 Z (lw_op Z Z Z (ow_lss Z Z Z fun bb1 hbb1 => lw_nil (ew_then ?_))))))))))))
  replace hb1 := cond_some hb1
  rcases hb1 with ⟨hc1, hb1⟩ | ⟨hc1, hb1⟩
  ·
   obtain rfl := hbb1.trans hc1
   refine cw_true Z (cw_skip (ew_then (cw_seq (cw_block (cw_seq (cw_region (lw_op Z Z Z (ow_move Z Z (lw_op Z Z Z (ow_move Z Z ?_))))))))))
   replace hb1 := bind_some hb1
   obtain ⟨x1, hx1, hb1⟩ := hb1
   refine lw_op Z Z Z (ow_indexSlice (R := RTest) Z Z Z (VRep.mono hl1 h0) Tryd.underlying36 (Tryd.sizeOf128 _) hx1 fun p1 hp1 => lw_op Z Z Z (ow_load (R := RTest) Z Z hp1 (Tryd.sizeOf128 _) (Tryd.isAgg128 _) fun v2 hv2 => ?_))
   replace hb1 := bind_some hb1
   obtain ⟨x2, hx2, hb1⟩ := hb1
   refine lw_op Z Z Z (ow_call Z Z Tryd.call157 (w_spec_TestValid (hG.mono hl1) hC1.old hv2 hx2) fun v3 w2 hv3 => ?_)
   obtain ⟨hv3, hb2⟩ := hv3
   have hl2 := Le.no M1 hb2
   have hC2 := hC1.no hb2
   obtain rfl := vbool_eq hv3
   refine lw_op Z Z Z (ow_not Z Z (lw_nil (ew_then ?_)))
   replace hb1 := cond_some hb1
   rcases hb1 with ⟨hc2, hb1⟩ | ⟨hc2, hb1⟩
   ·
    subst hc2
    exact cw_false Z (cw_skip (ew_blockN (ew_then (cw_region (lw_op Z Z Z (ow_move Z Z (lw_op Z Z Z (ow_add Z Z Z (lw_op Z Z Z (ow_assign Z Z (lw_nil (ew_nxt (W (k1 + 1)) hb1 fun a ha => ⟨M1, (ha.sub ⟨Z, Z, Zt⟩), (hl1.trans hl2), hC2⟩))))))))))))
   ·
    subst hc2
    refine cw_true Z (cw_seq (cw_region (lw_op Z Z Z (ow_assign Z Z (lw_nil (ew_then (cw_ret (ew_blockR (ew_thenR (ew_thenR (ew_blockR (ew_brkR (ew_thenR ?_)))))))))))))
    have e1 := hR1 _ (sj hb1).symm
    subst e1
    obtain rfl := sj h
    exact ew_ret (res1 Z (.tmp Z)) ⟨_, Z, ((vbool _)), hC2.bx⟩
  ·
   obtain rfl := hbb1.trans hc1
   exact cw_false Z (cw_exit (ew_thenX (ew_thenX (ew_blockX (ew_brk k1 hb1 fun a ha => ⟨M1, (ha.sub ⟨Z, Z, Zt⟩), hl1, hC1⟩)))))
 ·
  rintro k2 a w3 hlr2 ⟨M2, hF2, hl3, hC3⟩
  subst hlr2
  refine ew_at (E := [(0, v0p), (3, (Zv k2))]) hF2 (ew_then (cw_seq (cw_region (lw_op Z Z Z (ow_move Z Z (lw_op Z Z Z (ow_len Z Z (VRep.mono hl3 h0) Tryd.underlying36 Z (lw_op Z Z Z (ow_leq Z Z Z fun bb2 hbb2 => lw_op Z Z Z (ow_assign Z Z (lw_nil (ew_then (cw_ret ?_)))))))))))))
  obtain rfl := sj h
  exact ew_ret (res1 Z (.tmp Z)) ⟨_, Z, ((vbool_of hbb2)), hC3.bx⟩

theorem wo_spec_BoxAll {w : World} {M : Nat → Prop} (hG : ARep (RArr 4 RShape) w M shapes ⟨0, 0, none⟩) (hO : ∀ b, M b → b < w.heap.size)  {r : Box} (h : F.spec_BoxAll = some r) :
  Calls Tryd.prog 102 [].toArray w fun e w' => ∃ v, e = .returned v ∧ (∃ M' u, v = .agg #[u] ∧ OwnRow (RSlice RSpan) w.heap.size 121 w' M' r.Sides u ∧ Cx No w M w' M') ∧ BX No w w' := by
 obtain ⟨i121, hi121, hz121, hs121, hy121⟩ := info121
 have hC : Cx No w M w M := Cx.start hO (fun _ e => e.elim)
 refine walk (N := 18) Tryd.func102 Z Tryd.ntmps102 Z (cw_seq (cw_region (lw_op Z Z Z (ow_alloc Z (Tryd.zeroValue48 _) hC fun g1 w1 hg1 hg2 ho1 hb1 hl1 hC1 => ?_))))
 have hm1 : (Add g1 M) g1 := .inl Z
 refine lw_nil (ew_then (cw_seq (cw_region (lw_op Z Z Z (ow_build (v := .agg #[(.slice none 0 0)]) Z Z (by kernel_rfl) (lw_op Z Z Z (ow_alloc Z (Tryd.zeroValue48 _) hC1 fun g2 w2 hg3 hg4 ho2 hb2 hl2 hC2 => ?_)))))))
 have hn1 := Nat.ne_of_lt (Nat.lt_of_lt_of_le ho1.lt hg3)
 have ho3 := ho1.no hb2
 have hm2 : (Add g2 (Add g1 M)) g1 := .inr hm1
 have hm3 : (Add g2 (Add g1 M)) g2 := .inl Z
 refine lw_op0 Z Z (ow_store (X := No) (us := [(.slice none 0 0)]) (cs' := #[(.slice none 0 0)]) Z Z Z Z ho2 (Tryd.sizeOf48 _) Z Z Z Z hm3 (.inl hg4) Z hC2 fun w3 ho4 hb3 hl3 hC3 => ?_)
 have ho5 := ho3.go hb3 (fun e => hn1 e)
 refine lw_nil (ew_then (cw_seq (cw_seq (cw_region (lw_op Z Z Z (ow_assign Z Z (lw_nil (ew_then ?_))))))))
 have hr1 : OwnRow (RSlice RSpan) w.heap.size 121 w3 (Add g2 (Add g1 M)) ([] : List (List Span)) (.slice none 0 0) := ownrow_nil
 replace h := bind_some h
 obtain ⟨lr1, hlr1, h⟩ := h
 refine cw_for hlr1 (fun s a w' => ∃ (M' : Nat → Prop) (v1c : Value), Fits 18 [(0, (Zw g1 0)), (1, (Zw g2 0)), (2, (Zv s.1))] a ∧ Le w3 (Add g2 (Add g1 M)) w' M' ∧ Cx No w M w' M' ∧ OwnRow (RSlice RSpan) w.heap.size 121 w' M' s.2 v1c ∧ Own w' g1 48 #[(.slice none 0 0)] ∧ M' g1 ∧ Own w' g2 48 #[v1c] ∧ M' g2) ?_ ?_ ?_
 · exact fun a ha => ⟨(Add g2 (Add g1 M)), (.slice none 0 0), ha.sub ⟨Z, Z, Z, Zt⟩, Le.refl _ _, hC3, hr1, ho5, hm2, ho4, hm3⟩
 ·
  rintro ⟨k1, y1⟩ a w4 sr1 ⟨M1, v2, hF1, hl4, hC4, hw2, ho6, hm4, ho7, hm5⟩ hb4 hR1
  refine cw_at (E := [(0, (Zw g1 0)), (1, (Zw g2 0)), (2, (Zv k1))]) hF1 (cw_seq (cw_seq (cw_region (lw_op Z Z Z (ow_move Z Z (lw_op Z Z Z (ow_lss Z Z Z fun bb1 hbb1 => lw_nil (ew_then ?_))))))))
  replace hb4 := cond_some hb4
  rcases hb4 with ⟨hc1, hb4⟩ | ⟨hc1, hb4⟩
  ·
   obtain rfl := hbb1.trans hc1
   refine cw_true Z (cw_skip (ew_then (cw_seq (cw_block ?_))))
   replace hb4 := bind_some hb4
   obtain ⟨x1, hx1, hb4⟩ := hb4
   have lz1 := (((hl1.trans hl2).trans hl3).trans hl4)
   refine cw_sub (E' := [(0, (Zw g1 0)), (1, (Zw g2 0)), (2, (Zv k1))]) ⟨Z, Z, Z, Zt⟩ (cw_drawQ 7 [PEq (Zw g2 0), PEq v2, PEq (Zv k1), PEq (Zv x1), PV RSpan M1 ({ Lo := 0, Hi := x1 } : Span), PV (RSlice RSpan) M1 [({ Lo := 0, Hi := x1 } : Span)], PV (RSlice (RSlice RSpan)) M1 [[({ Lo := 0, Hi := x1 } : Span)]]] (by kernel_rfl) Z (by kernel_rfl) ⟨Zq, Zq, Zq, Zq, PV.mono _ _ _, PV.mono _ _ _, PV.mono _ _ _, Zt⟩ ⟨?_, ?_, ?_, ?_, ?_, ?_, ?_, Zt⟩ ?_)
   · exact fun w8 D hS1 hd1 => dg_sub (E' := [(1, (Zw g2 0))]) ⟨Z, Zt⟩ (dg_plain Z (ow_fieldAddr Z Z Tryd.underlying48 Z (Tryd.sizeOf46 _) Zb))
   ·
    intro w9 D hS2 hd2
    have ho17 := ho7.no hS2
    exact dg_sub (E' := [(8, (Zw g2 0))]) ⟨dpE hd2 0 Z Z, Zt⟩ (dg_plain Z (ow_loadOwn1 Z Z Z ho17 (Tryd.isAgg46 _) Z Zb))
   · exact fun w10 D hS3 hd3 => dg_sub (E' := [(2, (Zv k1))]) ⟨Z, Zt⟩ (dg_plain Z (ow_move Z Z Zb))
   ·
    intro w11 D hS4 hd4
    have hl11 := Le.no M1 hS4
    have hC11 := hC4.no hS4
    refine dg_sub (E' := [(10, (Zv k1))]) ⟨dpE hd4 2 Z Z, Zt⟩ (dg_plain Z (ow_call Z Z Tryd.call88 (w_spec_FieldTop (hG.mono (lz1.trans hl11)) hC11.old hx1) fun v4 w12 hv4 => ?_))
    obtain ⟨hv4, hb8⟩ := hv4
    obtain rfl := vint_eq hv4
    exact ⟨hb8, Z⟩
   ·
    intro w13 D hS5 hd5
    refine dg_sub (E' := [(11, (Zv x1))]) ⟨dpE hd5 3 Z Z, Zt⟩ (dg_plain Z (ow_build (v := .agg #[(Zv 0), (Zv x1)]) Z Z (by kernel_rfl) ?_))
    have hw6 : VRep RSpan w13 M1 ({ Lo := 0, Hi := x1 } : Span) (.agg #[(Zv 0), (Zv x1)]) := shut_Span
    exact ⟨BX.refl _ _, hw6⟩
   ·
    intro w14 D hS6 hd6
    have hC14 := hC4.no hS6
    have d4 : PV RSpan M1 ({ Lo := 0, Hi := x1 } : Span) (D 4) w14 := dpA hd6 4 Z
    generalize hq1 : (D 4) = v5 at d4
    refine dg_sub (E' := [(12, v5)]) ⟨congrArg some hq1, Zt⟩ ?_
    obtain rfl := open_Span d4
    exact dg_plain Z (ow_buildSlice (R := RSpan) (xs := [({ Lo := 0, Hi := x1 } : Span)]) (cs := #[(Zv ({ Lo := 0, Hi := x1 } : Span).Lo), (Zv ({ Lo := 0, Hi := x1 } : Span).Hi)]) (e := 120) Z Z (by kernel_rfl) Z Z ⟨_, _, Z, d4.cells, Z⟩ hC14 fun p3 w15 hw7 hb9 hl15 hC15 => ⟨hb9, hw7⟩)
   ·
    intro w16 D hS7 hd7
    have hC16 := hC4.no hS7
    have d5 : PV (RSlice RSpan) M1 [({ Lo := 0, Hi := x1 } : Span)] (D 5) w16 := dpA hd7 5 Z
    generalize hq2 : (D 5) = v6 at d5
    refine dg_sub (E' := [(13, v6)]) ⟨congrArg some hq2, Zt⟩ ?_
    obtain ⟨A1, c1, rfl, -⟩ := vslice_shape d5
    exact dg_plain Z (ow_buildSlice (R := (RSlice RSpan)) (xs := [[({ Lo := 0, Hi := x1 } : Span)]]) (cs := #[(.slice A1 [({ Lo := 0, Hi := x1 } : Span)].length c1)]) (e := 121) Z Z (by kernel_rfl) Z Z ⟨_, _, Z, d5.cells, Z⟩ hC16 fun p4 w17 hw8 hb10 hl17 hC17 => ⟨hb10, hw8⟩)
   ·
    intro w18 D hS8 hd8
    have d12 : PV (RSlice (RSlice RSpan)) M1 [[({ Lo := 0, Hi := x1 } : Span)]] (D 6) w18 := dpA hd8 6 Z
    have hl18 := Le.no M1 hS8
    have hC18 := hC4.no hS8
    have ho34 := ho6.no hS8
    have ho35 := ho7.no hS8
    have hr15 := hw2.no hS8
    generalize hq3 : (D 6) = v7 at d12
    refine lw_sub (E' := [(9, v2), (14, v7), (0, (Zw g1 0)), (1, (Zw g2 0)), (2, (Zv k1))]) ⟨dpE hd8 1 Z Z, congrArg some hq3, Z, Z, Z, Zt⟩ ?_
    replace hb4 := bind_some hb4
    obtain ⟨z1, hz1, hb4⟩ := hb4
    refine lw_op Z Z Z (ow_append (R := (RSlice RSpan)) Z Z Z Z Tryd.underlying46 hi121 hz121 hs121 hy121 Z Z Z Z hr15 d12 hz1 hC18 fun v8 w19 M2 hr16 hb11 hl19 hC19 hM1 hat1 => ?_)
    have ho36 := ho34.go hb11 (fun e => (orow_ne hr15 ho34 (by decide)) e)
    have hm6 := hM1 _ hm4
    have ho37 := ho35.go hb11 (fun e => (orow_ne hr15 ho35 (by decide)) e)
    have hm7 := hM1 _ hm5
    refine lw_op Z Z Z (ow_fieldAddr Z Z Tryd.underlying48 Z (Tryd.sizeOf46 _) ?_)
    obtain ⟨A2, c2, rfl⟩ := hr16.len
    refine lw_op0 Z Z (ow_store (X := No) (us := [(.slice A2 z1.length c2)]) (cs' := #[(.slice A2 z1.length c2)]) Z Z Z Z ho37 (Tryd.sizeOf46 _) Z Z Z Z hm7 (.inl hg4) Z hC19 fun w20 ho38 hb12 hl20 hC20 => ?_)
    have ho39 := ho36.go hb12 (fun e => hn1 e)
    have hr17 := hr16.go hb12 (fun k hk e => (orow_ne hr16 ho37 (by decide)) (hk.trans (congrArg some e))) hl20 (fun _ h => h)
    refine lw_nil (ew_blockN (ew_then (cw_region (lw_op Z Z Z (ow_move Z Z (lw_op Z Z Z (ow_add Z Z Z (lw_op Z Z Z (ow_assign Z Z (lw_nil ?_))))))))))
    have lz2 := (((hl4.trans hl18).trans hl19).trans hl20)
    exact ew_nxt ((W (k1 + 1)), z1) hb4 fun a ha => ⟨M2, (.slice A2 z1.length c2), (ha.sub ⟨Z, Z, Z, Zt⟩), lz2, hC20, hr17, ho39, hm6, ho38, hm7⟩
  ·
   obtain rfl := hbb1.trans hc1
   exact cw_false Z (cw_exit (ew_thenX (ew_thenX (ew_blockX (ew_brk (k1, y1) hb4 fun a ha => ⟨M1, v2, (ha.sub ⟨Z, Z, Z, Zt⟩), hl4, hC4, hw2, ho6, hm4, ho7, hm5⟩)))))
 ·
  rintro ⟨k2, y2⟩ a w21 hlr2 ⟨M3, v10, hF2, hl21, hC21, hw9, ho40, hm8, ho41, hm9⟩
  subst hlr2
  refine ew_at (E := [(0, (Zw g1 0)), (1, (Zw g2 0)), (2, (Zv k2))]) hF2 (ew_then (cw_seq (cw_region ?_)))
  obtain ⟨A3, c3, rfl⟩ := hw9.len
  refine lw_op Z Z Z (ow_loadOwnA Z Z Z ho41 (Tryd.isAgg48 _) (Tryd.sizeOf48 _) Z (lw_op0 Z Z (ow_store (X := No) (us := [(.slice A3 y2.length c3)]) (cs' := #[(.slice A3 y2.length c3)]) Z Z Z Z ho40 (Tryd.sizeOf48 _) Z Z Z Z hm8 (.inl hg2) Z hC21 fun w22 ho42 hb13 hl22 hC22 => ?_)))
  have hr18 := hw9.go hb13 (fun k hk e => (orow_ne hw9 ho40 (by decide)) (hk.trans (congrArg some e))) hl22 (fun _ h => h)
  refine lw_nil (ew_then (cw_ret ?_))
  obtain rfl := sj h
  exact ew_ret (res1 Z (.cell Z (own_loadVarA ho42 (Tryd.isAgg48 _) (Tryd.sizeOf48 _) Z))) ⟨_, Z, ⟨M3, _, Z, hr18, hC22⟩, hC22.bx⟩

theorem w_spec_BoxAll {w : World} {M : Nat → Prop} (hG : ARep (RArr 4 RShape) w M shapes ⟨0, 0, none⟩) (hO : ∀ b, M b → b < w.heap.size)  {r : Box} (h : F.spec_BoxAll = some r) :
  Calls Tryd.prog 102 [].toArray w fun e w' => ∃ v, e = .returned v ∧ VRep RBox w' M r v ∧ BX No w w' := by
 refine Calls.mono (wo_spec_BoxAll hG hO h) fun e w1 hz => ?_
 obtain ⟨v, e1, ⟨M1, u, rfl, hr, hc⟩, hb⟩ := hz
 obtain ⟨A0, c0, rfl⟩ := hr.len
 exact ⟨_, e1, shut_Box (hr.freezeBack hc hO), hb⟩

theorem w_spec_l2Meet {w : World} {M : Nat → Prop} (_hG : ARep (RArr 4 RShape) w M shapes ⟨0, 0, none⟩) (hO : ∀ b, M b → b < w.heap.size) {v0p : Value} {a_a : List Span} (h0 : VRep (RSlice RSpan) w M a_a v0p) {v1p : Value} {a_b : List Span} (h1 : VRep (RSlice RSpan) w M a_b v1p) {r : (List Span)} (h : F.spec_l2Meet a_a a_b = some r) :
  Calls Tryd.prog 103 [v0p, v1p].toArray w fun e w' => ∃ v, e = .returned v ∧ VRep (RSlice RSpan) w' M r v ∧ BX No w w' := by
 obtain ⟨i120, hi120, hz120, hs120, hy120⟩ := info120
 have hC : Cx No w M w M := Cx.start hO (fun _ e => e.elim)
 clear _hG
 refine walk (N := 55) Tryd.func103 Z Tryd.ntmps103 Z (cw_seq (cw_region (lw_op Z Z Z (ow_assign Z Z (lw_nil (ew_then (cw_seq (cw_region (lw_op Z Z Z (ow_buildSlice0 (R := RSpan) (e := 120) Z (by kernel_rfl) hC fun p1 w1 M1 hr1 hb1 hl1 hC1 hM1 hat1 => lw_op Z Z Z (ow_assign Z Z (lw_nil (ew_then (cw_seq (cw_seq (cw_region (lw_op Z Z Z (ow_assign Z Z (lw_nil (ew_then ?_))))))))))))))))))))
 replace h := bind_some h
 obtain ⟨lr1, hlr1, h⟩ := h
 refine cw_for hlr1 (fun s a w' => ∃ (M' : Nat → Prop) (v0c : Value), Fits 55 [(0, v0p), (1, v1p), (5, v0c), (6, (Zv s.2))] a ∧ Le w1 M1 w' M' ∧ Cx No w M w' M' ∧ OwnRow RSpan w.heap.size 120 w' M' s.1 v0c) ?_ ?_ ?_
 · exact fun a ha => ⟨M1, (.slice (some p1) 0 0), ha.sub ⟨Z, Z, Z, Z, Zt⟩, Le.refl _ _, hC1, hr1⟩
 ·
  rintro ⟨y1, k1⟩ a w2 sr1 ⟨M2, v1, hF1, hl2, hC2, hw1⟩ hb2 hR1
  refine cw_at (E := [(0, v0p), (1, v1p), (5, v1), (6, (Zv k1))]) hF1 (cw_seq (cw_seq (cw_region (lw_op Z Z Z (ow_move Z Z (lw_op Z Z Z (ow_move Z Z (lw_op Z Z Z (ow_len Z Z (VRep.mono (hl1.trans hl2) h0) Tryd.underlying121 Z (lw_op Z Z Z (ow_lss Z Z Z fun bb1 hbb1 => lw_nil (ew_then ?_))))))))))))
  replace hb2 := cond_some hb2
  rcases hb2 with ⟨hc1, hb2⟩ | ⟨hc1, hb2⟩
  ·
   obtain rfl := hbb1.trans hc1
   refine cw_true Z (cw_skip (ew_then (cw_seq (cw_block (cw_seq (cw_region (lw_op Z Z Z (ow_assign Z Z (lw_nil (ew_then ?_))))))))))
   replace hb2 := bind_some hb2
   obtain ⟨lr2, hlr2, hb2⟩ := hb2
   refine cw_for hlr2 (fun s a w' => ∃ (M' : Nat → Prop) (v0c : Value), Fits 55 [(0, v0p), (1, v1p), (5, v0c), (6, (Zv k1)), (7, (Zv s.2))] a ∧ Le w2 M2 w' M' ∧ Cx No w M w' M' ∧ OwnRow RSpan w.heap.size 120 w' M' s.1 v0c) ?_ ?_ ?_
   · exact fun a ha => ⟨M2, v1, ha.sub ⟨Z, Z, Z, Z, Z, Zt⟩, Le.refl _ _, hC2, hw1⟩
   ·
    rintro ⟨y2, k2⟩ a w3 sr2 ⟨M3, v3, hF2, hl3, hC3, hw2⟩ hb3 hR2
    refine cw_at (E := [(0, v0p), (1, v1p), (5, v3), (6, (Zv k1)), (7, (Zv k2))]) hF2 (cw_seq (cw_seq (cw_region (lw_op Z Z Z (ow_move Z Z (lw_op Z Z Z (ow_move Z Z ?_)))))))
    have lz1 := ((hl1.trans hl2).trans hl3)
    refine lw_op Z Z Z (ow_len Z Z (VRep.mono lz1 h1) Tryd.underlying121 Z (lw_op Z Z Z (ow_lss Z Z Z fun bb2 hbb2 => lw_nil (ew_then ?_))))
    replace hb3 := cond_some hb3
    rcases hb3 with ⟨hc2, hb3⟩ | ⟨hc2, hb3⟩
    ·
     obtain rfl := hbb2.trans hc2
     refine cw_true Z (cw_skip (ew_then (cw_seq (cw_block (cw_seq ?_)))))
     replace hb3 := bind_some hb3
     obtain ⟨x1, hx1, hb3⟩ := hb3
     replace hb3 := bind_some hb3
     obtain ⟨x2, hx2, hb3⟩ := hb3
     refine cw_sub (E' := [(0, v0p), (1, v1p), (5, v3), (6, (Zv k1)), (7, (Zv k2))]) ⟨Z, Z, Z, Z, Z, Zt⟩ (cw_drawQ 10 [PV (RSlice RSpan) M3 a_a, PEq (Zv k1), PA RSpan M3 x1, PA RInt M3 x1.Lo, PEq (Zv x1.Lo), PV (RSlice RSpan) M3 a_b, PEq (Zv k2), PA RSpan M3 x2, PA RInt M3 x2.Lo, PEq (Zv x2.Lo)] (by kernel_rfl) Z (by kernel_rfl) ⟨PV.mono _ _ _, Zq, PA.mono _ _ _, PA.mono _ _ _, Zq, PV.mono _ _ _, Zq, PA.mono _ _ _, PA.mono _ _ _, Zq, Zt⟩ ⟨?_, ?_, ?_, ?_, ?_, ?_, ?_, ?_, ?_, ?_, Zt⟩ ?_)
     ·
      intro w4 D hS1 hd1
      have hl4 := Le.no M3 hS1
      exact dg_sub (E' := [(0, v0p)]) ⟨Z, Zt⟩ (dg_plain Z (ow_move Z Z ⟨BX.refl _ _, (VRep.mono (lz1.trans hl4) h0)⟩))
     · exact fun w5 D hS2 hd2 => dg_sub (E' := [(6, (Zv k1))]) ⟨Z, Zt⟩ (dg_plain Z (ow_move Z Z Zb))
     ·
      intro w6 D hS3 hd3
      have d1 : PV (RSlice RSpan) M3 a_a (D 0) w6 := dpA hd3 0 Z
      generalize hq1 : (D 0) = v7 at d1
      exact dg_sub (E' := [(23, v7), (24, (Zv k1))]) ⟨congrArg some hq1, dpE hd3 1 Z Z, Zt⟩ (dg_plain Z (ow_indexSlice (R := RSpan) Z Z Z d1 Tryd.underlying121 (Tryd.sizeOf120 _) hx1 fun p4 hp4 => ⟨BX.refl _ _, ⟨_, Z, hp4⟩⟩))
     ·
      intro w7 D hS4 hd4
      have d3 : PA RSpan M3 x1 (D 2) w7 := dpA hd4 2 Z
      obtain ⟨p5, e1, ha1⟩ := d3
      exact dg_sub (E' := [(25, (.pointer (some p5)))]) ⟨congrArg some e1, Zt⟩ (dg_plain Z (ow_fieldAddr Z Z Tryd.underlying120 Z (Tryd.sizeOf3 _) ⟨BX.refl _ _, ⟨_, Z, (ha1.fld fld_Span_Lo)⟩⟩))
     ·
      intro w8 D hS5 hd5
      have d4 : PA RInt M3 x1.Lo (D 3) w8 := dpA hd5 3 Z
      obtain ⟨p6, e2, ha2⟩ := d4
      refine dg_sub (E' := [(26, (.pointer (some p6)))]) ⟨congrArg some e2, Zt⟩ (dg_plain Z (ow_load (R := RInt) Z Z ha2 (Tryd.sizeOf3 _) (Tryd.isAgg3 _) fun v8 hv8 => ?_))
      obtain rfl := vint_eq hv8
      exact Zb
     ·
      intro w9 D hS6 hd6
      have hl9 := Le.no M3 hS6
      exact dg_sub (E' := [(1, v1p)]) ⟨Z, Zt⟩ (dg_plain Z (ow_move Z Z ⟨BX.refl _ _, (VRep.mono (lz1.trans hl9) h1)⟩))
     · exact fun w10 D hS7 hd7 => dg_sub (E' := [(7, (Zv k2))]) ⟨Z, Zt⟩ (dg_plain Z (ow_move Z Z Zb))
     ·
      intro w11 D hS8 hd8
      have d5 : PV (RSlice RSpan) M3 a_b (D 5) w11 := dpA hd8 5 Z
      generalize hq2 : (D 5) = v9 at d5
      exact dg_sub (E' := [(28, v9), (29, (Zv k2))]) ⟨congrArg some hq2, dpE hd8 6 Z Z, Zt⟩ (dg_plain Z (ow_indexSlice (R := RSpan) Z Z Z d5 Tryd.underlying121 (Tryd.sizeOf120 _) hx2 fun p7 hp7 => ⟨BX.refl _ _, ⟨_, Z, hp7⟩⟩))
     ·
      intro w12 D hS9 hd9
      have d7 : PA RSpan M3 x2 (D 7) w12 := dpA hd9 7 Z
      obtain ⟨p8, e3, ha3⟩ := d7
      exact dg_sub (E' := [(30, (.pointer (some p8)))]) ⟨congrArg some e3, Zt⟩ (dg_plain Z (ow_fieldAddr Z Z Tryd.underlying120 Z (Tryd.sizeOf3 _) ⟨BX.refl _ _, ⟨_, Z, (ha3.fld fld_Span_Lo)⟩⟩))
     ·
      intro w13 D hS10 hd10
      have d8 : PA RInt M3 x2.Lo (D 8) w13 := dpA hd10 8 Z
      obtain ⟨p9, e4, ha4⟩ := d8
      refine dg_sub (E' := [(31, (.pointer (some p9)))]) ⟨congrArg some e4, Zt⟩ (dg_plain Z (ow_load (R := RInt) Z Z ha4 (Tryd.sizeOf3 _) (Tryd.isAgg3 _) fun v10 hv10 => ?_))
      obtain rfl := vint_eq hv10
      exact Zb
     ·
      intro w14 D hS11 hd11
      have hl14 := Le.no M3 hS11
      have hC14 := hC3.no hS11
      have hr12 := hw2.no hS11
      refine lw_sub (E' := [(27, (Zv x1.Lo)), (32, (Zv x2.Lo)), (0, v0p), (1, v1p), (5, v3), (6, (Zv k1)), (7, (Zv k2))]) ⟨dpE hd11 4 Z Z, dpE hd11 9 Z Z, Z, Z, Z, Z, Z, Zt⟩ (lw_op Z Z Z (ow_max Z Z Z (lw_op Z Z Z (ow_assign Z Z (lw_nil (ew_then (cw_seq ?_)))))))
      have lz2 := (lz1.trans hl14)
      refine cw_sub (E' := [(0, v0p), (1, v1p), (5, v3), (6, (Zv k1)), (7, (Zv k2)), (8, (Zv (imax x1.Lo x2.Lo)))]) ⟨Z, Z, Z, Z, Z, Z, Zt⟩ (cw_drawQ 10 [PV (RSlice RSpan) M3 a_a, PEq (Zv k1), PA RSpan M3 x1, PA RInt M3 x1.Hi, PEq (Zv x1.Hi), PV (RSlice RSpan) M3 a_b, PEq (Zv k2), PA RSpan M3 x2, PA RInt M3 x2.Hi, PEq (Zv x2.Hi)] (by kernel_rfl) Z (by kernel_rfl) ⟨PV.mono _ _ _, Zq, PA.mono _ _ _, PA.mono _ _ _, Zq, PV.mono _ _ _, Zq, PA.mono _ _ _, PA.mono _ _ _, Zq, Zt⟩ ⟨?_, ?_, ?_, ?_, ?_, ?_, ?_, ?_, ?_, ?_, Zt⟩ ?_)
      ·
       intro w15 D hS12 hd12
       have hl15 := Le.no M3 hS12
       exact dg_sub (E' := [(0, v0p)]) ⟨Z, Zt⟩ (dg_plain Z (ow_move Z Z ⟨BX.refl _ _, (VRep.mono (lz2.trans hl15) h0)⟩))
      · exact fun w16 D hS13 hd13 => dg_sub (E' := [(6, (Zv k1))]) ⟨Z, Zt⟩ (dg_plain Z (ow_move Z Z Zb))
      ·
       intro w17 D hS14 hd14
       have d19 : PV (RSlice RSpan) M3 a_a (D 0) w17 := dpA hd14 0 Z
       generalize hq3 : (D 0) = v13 at d19
       exact dg_sub (E' := [(34, v13), (35, (Zv k1))]) ⟨congrArg some hq3, dpE hd14 1 Z Z, Zt⟩ (dg_plain Z (ow_indexSlice (R := RSpan) Z Z Z d19 Tryd.underlying121 (Tryd.sizeOf120 _) hx1 fun p12 hp12 => ⟨BX.refl _ _, ⟨_, Z, hp12⟩⟩))
      ·
       intro w18 D hS15 hd15
       have d21 : PA RSpan M3 x1 (D 2) w18 := dpA hd15 2 Z
       obtain ⟨p13, e5, ha5⟩ := d21
       exact dg_sub (E' := [(36, (.pointer (some p13)))]) ⟨congrArg some e5, Zt⟩ (dg_plain Z (ow_fieldAddr Z Z Tryd.underlying120 Z (Tryd.sizeOf3 _) ⟨BX.refl _ _, ⟨_, Z, (ha5.fld fld_Span_Hi)⟩⟩))
      ·
       intro w19 D hS16 hd16
       have d22 : PA RInt M3 x1.Hi (D 3) w19 := dpA hd16 3 Z
       obtain ⟨p14, e6, ha6⟩ := d22
       refine dg_sub (E' := [(37, (.pointer (some p14)))]) ⟨congrArg some e6, Zt⟩ (dg_plain Z (ow_load (R := RInt) Z Z ha6 (Tryd.sizeOf3 _) (Tryd.isAgg3 _) fun v14 hv14 => ?_))
       obtain rfl := vint_eq hv14
       exact Zb
      ·
       intro w20 D hS17 hd17
       have hl20 := Le.no M3 hS17
       exact dg_sub (E' := [(1, v1p)]) ⟨Z, Zt⟩ (dg_plain Z (ow_move Z Z ⟨BX.refl _ _, (VRep.mono (lz2.trans hl20) h1)⟩))
      · exact fun w21 D hS18 hd18 => dg_sub (E' := [(7, (Zv k2))]) ⟨Z, Zt⟩ (dg_plain Z (ow_move Z Z Zb))
      ·
       intro w22 D hS19 hd19
       have d23 : PV (RSlice RSpan) M3 a_b (D 5) w22 := dpA hd19 5 Z
       generalize hq4 : (D 5) = v15 at d23
       exact dg_sub (E' := [(39, v15), (40, (Zv k2))]) ⟨congrArg some hq4, dpE hd19 6 Z Z, Zt⟩ (dg_plain Z (ow_indexSlice (R := RSpan) Z Z Z d23 Tryd.underlying121 (Tryd.sizeOf120 _) hx2 fun p15 hp15 => ⟨BX.refl _ _, ⟨_, Z, hp15⟩⟩))
      ·
       intro w23 D hS20 hd20
       have d25 : PA RSpan M3 x2 (D 7) w23 := dpA hd20 7 Z
       obtain ⟨p16, e7, ha7⟩ := d25
       exact dg_sub (E' := [(41, (.pointer (some p16)))]) ⟨congrArg some e7, Zt⟩ (dg_plain Z (ow_fieldAddr Z Z Tryd.underlying120 Z (Tryd.sizeOf3 _) ⟨BX.refl _ _, ⟨_, Z, (ha7.fld fld_Span_Hi)⟩⟩))
      ·
       intro w24 D hS21 hd21
       have d26 : PA RInt M3 x2.Hi (D 8) w24 := dpA hd21 8 Z
       obtain ⟨p17, e8, ha8⟩ := d26
       refine dg_sub (E' := [(42, (.pointer (some p17)))]) ⟨congrArg some e8, Zt⟩ (dg_plain Z (ow_load (R := RInt) Z Z ha8 (Tryd.sizeOf3 _) (Tryd.isAgg3 _) fun v16 hv16 => ?_))
       obtain rfl := vint_eq hv16
       exact Zb
      ·
       intro w25 D hS22 hd22
       have hl25 := Le.no M3 hS22
       have hC25 := hC14.no hS22
       have hr23 := hr12.no hS22
       refine lw_sub (E' := [(38, (Zv x1.Hi)), (43, (Zv x2.Hi)), (0, v0p), (1, v1p), (5, v3), (6, (Zv k1)), (7, (Zv k2)), (8, (Zv (imax x1.Lo x2.Lo)))]) ⟨dpE hd22 4 Z Z, dpE hd22 9 Z Z, Z, Z, Z, Z, Z, Z, Zt⟩ (lw_op Z Z Z (ow_min Z Z Z (lw_op Z Z Z (ow_assign Z Z (lw_nil (ew_then (cw_seq (cw_region (lw_op Z Z Z (ow_move Z Z (lw_op Z Z Z (ow_move Z Z (lw_op Z Z Z (ow_leq Z Z Z fun bb3 hbb3 => lw_nil (ew_then ?_)))))))))))))))
       replace hb3 := cond_some hb3
       rcases hb3 with ⟨hc3, hb3⟩ | ⟨hc3, hb3⟩
       ·
        obtain rfl := hbb3.trans hc3
        refine cw_true Z (cw_region (lw_op Z Z Z (ow_move Z Z (lw_op Z Z Z (ow_move Z Z (lw_op Z Z Z (ow_move Z Z (lw_op Z Z Z (ow_build (v := .agg #[(Zv (imax x1.Lo x2.Lo)), (Zv (imin x1.Hi x2.Hi))]) Z Z (by kernel_rfl) ?_)))))))))
        have hw3 : VRep RSpan w25 M3 ({ Lo := (imax x1.Lo x2.Lo), Hi := (imin x1.Hi x2.Hi) } : Span) (.agg #[(Zv (imax x1.Lo x2.Lo)), (Zv (imin x1.Hi x2.Hi))]) := shut_Span
        refine lw_op Z Z Z (ow_buildSlice (R := RSpan) (xs := [({ Lo := (imax x1.Lo x2.Lo), Hi := (imin x1.Hi x2.Hi) } : Span)]) (cs := #[(Zv (imax x1.Lo x2.Lo)), (Zv (imin x1.Hi x2.Hi))]) (e := 120) Z Z (by kernel_rfl) Z Z ⟨_, _, Z, hw3.cells, Z⟩ hC25 fun p18 w26 hw4 hb4 hl26 hC26 => ?_)
        have hr24 := hr23.no hb4
        replace hb3 := bind_some hb3
        obtain ⟨z1, hz1, hb3⟩ := hb3
        refine lw_op Z Z Z (ow_append (R := RSpan) Z Z Z Z Tryd.underlying121 hi120 hz120 hs120 hy120 Z Z Z Z hr24 hw4 hz1 hC26 fun v17 w27 M4 hr25 hb5 hl27 hC27 hM2 hat2 => lw_op Z Z Z (ow_assign Z Z (lw_nil (ew_blockN (ew_then (cw_region (lw_op Z Z Z (ow_move Z Z (lw_op Z Z Z (ow_add Z Z Z (lw_op Z Z Z (ow_assign Z Z (lw_nil ?_)))))))))))))
        have lz3 := ((((hl3.trans hl14).trans hl25).trans hl26).trans hl27)
        exact ew_nxt (z1, (W (k2 + 1))) hb3 fun a ha => ⟨M4, v17, (ha.sub ⟨Z, Z, Z, Z, Z, Zt⟩), lz3, hC27, hr25⟩
       ·
        obtain rfl := hbb3.trans hc3
        refine cw_false Z (cw_skip (ew_blockN (ew_then (cw_region (lw_op Z Z Z (ow_move Z Z (lw_op Z Z Z (ow_add Z Z Z (lw_op Z Z Z (ow_assign Z Z (lw_nil ?_)))))))))))
        have lz4 := ((hl3.trans hl14).trans hl25)
        exact ew_nxt (y2, (W (k2 + 1))) hb3 fun a ha => ⟨M3, v3, (ha.sub ⟨Z, Z, Z, Z, Z, Zt⟩), lz4, hC25, hr23⟩
    ·
     obtain rfl := hbb2.trans hc2
     exact cw_false Z (cw_exit (ew_thenX (ew_thenX (ew_blockX (ew_brk (y2, k2) hb3 fun a ha => ⟨M3, v3, (ha.sub ⟨Z, Z, Z, Z, Z, Zt⟩), hl3, hC3, hw2⟩)))))
   ·
    rintro ⟨y3, k3⟩ a w28 hlr3 ⟨M5, v18, hF3, hl28, hC28, hw5⟩
    subst hlr3
    exact ew_at (E := [(0, v0p), (1, v1p), (5, v18), (6, (Zv k1)), (7, (Zv k3))]) hF3 (ew_blockN (ew_then (cw_region (lw_op Z Z Z (ow_move Z Z (lw_op Z Z Z (ow_add Z Z Z (lw_op Z Z Z (ow_assign Z Z (lw_nil (ew_nxt (y3, (W (k1 + 1))) hb2 fun a ha => ⟨M5, v18, (ha.sub ⟨Z, Z, Z, Z, Zt⟩), (hl2.trans hl28), hC28, hw5⟩)))))))))))
  ·
   obtain rfl := hbb1.trans hc1
   exact cw_false Z (cw_exit (ew_thenX (ew_thenX (ew_blockX (ew_brk (y1, k1) hb2 fun a ha => ⟨M2, v1, (ha.sub ⟨Z, Z, Z, Z, Zt⟩), hl2, hC2, hw1⟩)))))
 ·
  rintro ⟨y4, k4⟩ a w29 hlr4 ⟨M6, v20, hF4, hl29, hC29, hw6⟩
  subst hlr4
  refine ew_at (E := [(0, v0p), (1, v1p), (5, v20), (6, (Zv k4))]) hF4 (ew_then (cw_seq (cw_region (lw_op Z Z Z (ow_move Z Z (lw_op Z Z Z (ow_assign Z Z (lw_nil (ew_then (cw_ret ?_))))))))))
  obtain rfl := sj h
  exact ew_ret (res1 Z (.tmp Z)) ⟨_, Z, (hw6.freezeBack hC29 hO), hC29.bx⟩

theorem w_spec_l2Other {w : World} {M : Nat → Prop} (_hG : ARep (RArr 4 RShape) w M shapes ⟨0, 0, none⟩) (hO : ∀ b, M b → b < w.heap.size) {v0p : Value} {a_a : List Span} (h0 : VRep (RSlice RSpan) w M a_a v0p) {a_top : Int} {r : (List Span)} (h : F.spec_l2Other a_a a_top = some r) :
  Calls Tryd.prog 158 [v0p, (.int .i64 a_top)].toArray w fun e w' => ∃ v, e = .returned v ∧ VRep (RSlice RSpan) w' M r v ∧ BX No w w' := by
 obtain ⟨i120, hi120, hz120, hs120, hy120⟩ := info120
 have hC : Cx No w M w M := Cx.start hO (fun _ e => e.elim)
 clear _hG
 refine walk (N := 49) Tryd.func158 Z Tryd.ntmps158 Z (cw_seq (cw_region (lw_op Z Z Z (ow_assign Z Z (lw_nil (ew_then (cw_seq (cw_region (lw_op Z Z Z (ow_buildSlice0 (R := RSpan) (e := 120) Z (by kernel_rfl) hC fun p1 w1 M1 hr1 hb1 hl1 hC1 hM1 hat1 => lw_op Z Z Z (ow_assign Z Z (lw_nil (ew_then (cw_seq (cw_region (lw_op Z Z Z (ow_assign Z Z (lw_nil (ew_then (cw_seq (cw_seq (cw_region (lw_op Z Z Z (ow_assign Z Z (lw_nil (ew_then ?_))))))))))))))))))))))))))
 replace h := bind_some h
 obtain ⟨lr1, hlr1, h⟩ := h
 refine cw_for hlr1 (fun s a w' => ∃ (M' : Nat → Prop) (v0c : Value), Fits 49 [(0, v0p), (1, (Zv a_top)), (5, v0c), (6, (Zv s.2.1)), (7, (Zv s.2.2))] a ∧ Le w1 M1 w' M' ∧ Cx No w M w' M' ∧ OwnRow RSpan w.heap.size 120 w' M' s.1 v0c) ?_ ?_ ?_
 · exact fun a ha => ⟨M1, (.slice (some p1) 0 0), ha.sub ⟨Z, Z, Z, Z, Z, Zt⟩, Le.refl _ _, hC1, hr1⟩
 ·
  rintro ⟨y1, k1, k2⟩ a w2 sr1 ⟨M2, v1, hF1, hl2, hC2, hw1⟩ hb2 hR1
  refine cw_at (E := [(0, v0p), (1, (Zv a_top)), (5, v1), (6, (Zv k1)), (7, (Zv k2))]) hF1 (cw_seq (cw_seq (cw_region (lw_op Z Z Z (ow_move Z Z (lw_op Z Z Z (ow_move Z Z (lw_op Z Z Z (ow_len Z Z (VRep.mono (hl1.trans hl2) h0) Tryd.underlying121 Z (lw_op Z Z Z (ow_lss Z Z Z fun bb1 hbb1 => lw_nil (ew_then ?_))))))))))))
  replace hb2 := cond_some hb2
  rcases hb2 with ⟨hc1, hb2⟩ | ⟨hc1, hb2⟩
  ·
   obtain rfl := hbb1.trans hc1
   refine cw_true Z (cw_skip (ew_then (cw_seq (cw_block (cw_seq (cw_seq (cw_region (lw_op Z Z Z (ow_move Z Z (lw_op Z Z Z (ow_move Z Z (lw_op Z Z Z (ow_move Z Z ?_)))))))))))))
   replace hb2 := bind_some hb2
   obtain ⟨x1, hx1, hb2⟩ := hb2
   refine lw_op Z Z Z (ow_indexSlice (R := RSpan) Z Z Z (VRep.mono (hl1.trans hl2) h0) Tryd.underlying121 (Tryd.sizeOf120 _) hx1 fun p2 hp2 => lw_op Z Z Z (ow_fieldAddr Z Z Tryd.underlying120 Z (Tryd.sizeOf3 _) (lw_op Z Z Z (ow_load (R := RInt) Z Z (hp2.fld fld_Span_Lo) (Tryd.sizeOf3 _) (Tryd.isAgg3 _) fun v4 hv4 => ?_))))
   obtain rfl := vint_eq hv4
   refine lw_op Z Z Z (ow_lss Z Z Z fun bb2 hbb2 => lw_nil (ew_then ?_))
   replace hb2 := cond_some hb2
   rcases hb2 with ⟨hc2, hb2⟩ | ⟨hc2, hb2⟩
   ·
    obtain rfl := hbb2.trans hc2
    refine cw_true Z (cw_region (lw_op Z Z Z (ow_move Z Z (lw_op Z Z Z (ow_move Z Z (lw_op Z Z Z (ow_move Z Z (lw_op Z Z Z (ow_move Z Z (lw_op Z Z Z (ow_indexSlice (R := RSpan) Z Z Z (VRep.mono (hl1.trans hl2) h0) Tryd.underlying121 (Tryd.sizeOf120 _) hx1 fun p3 hp3 => lw_op Z Z Z (ow_fieldAddr Z Z Tryd.underlying120 Z (Tryd.sizeOf3 _) (lw_op Z Z Z (ow_load (R := RInt) Z Z (hp3.fld fld_Span_Lo) (Tryd.sizeOf3 _) (Tryd.isAgg3 _) fun v5 hv5 => ?_))))))))))))))
    obtain rfl := vint_eq hv5
    refine lw_op Z Z Z (ow_sub Z Z Z (lw_op Z Z Z (ow_build (v := .agg #[(Zv k1), (Zv (W (x1.Lo - 1)))]) Z Z (by kernel_rfl) ?_)))
    have hw2 : VRep RSpan w2 M2 ({ Lo := k1, Hi := (W (x1.Lo - 1)) } : Span) (.agg #[(Zv k1), (Zv (W (x1.Lo - 1)))]) := shut_Span
    refine lw_op Z Z Z (ow_buildSlice (R := RSpan) (xs := [({ Lo := k1, Hi := (W (x1.Lo - 1)) } : Span)]) (cs := #[(Zv k1), (Zv (W (x1.Lo - 1)))]) (e := 120) Z Z (by kernel_rfl) Z Z ⟨_, _, Z, hw2.cells, Z⟩ hC2 fun p4 w3 hw3 hb3 hl3 hC3 => ?_)
    have hr2 := hw1.no hb3
    replace hb2 := bind_some hb2
    obtain ⟨z1, hz1, hb2⟩ := hb2
    refine lw_op Z Z Z (ow_append (R := RSpan) Z Z Z Z Tryd.underlying121 hi120 hz120 hs120 hy120 Z Z Z Z hr2 hw3 hz1 hC3 fun v6 w4 M3 hr3 hb4 hl4 hC4 hM2 hat2 => lw_op Z Z Z (ow_assign Z Z (lw_nil (ew_then (cw_region (lw_op Z Z Z (ow_move Z Z (lw_op Z Z Z (ow_move Z Z ?_)))))))))
    have lz1 := (((hl1.trans hl2).trans hl3).trans hl4)
    refine lw_op Z Z Z (ow_indexSlice (R := RSpan) Z Z Z (VRep.mono lz1 h0) Tryd.underlying121 (Tryd.sizeOf120 _) hx1 fun p5 hp5 => lw_op Z Z Z (ow_fieldAddr Z Z Tryd.underlying120 Z (Tryd.sizeOf3 _) (lw_op Z Z Z (ow_load (R := RInt) Z Z (hp5.fld fld_Span_Hi) (Tryd.sizeOf3 _) (Tryd.isAgg3 _) fun v7 hv7 => ?_))))
    obtain rfl := vint_eq hv7
    refine lw_op Z Z Z (ow_add Z Z Z (lw_op Z Z Z (ow_assign Z Z (lw_nil (ew_blockN (ew_then (cw_region (lw_op Z Z Z (ow_move Z Z (lw_op Z Z Z (ow_add Z Z Z (lw_op Z Z Z (ow_assign Z Z (lw_nil ?_))))))))))))))
    have lz2 := ((hl2.trans hl3).trans hl4)
    exact ew_nxt (z1, (W (x1.Hi + 1)), (W (k2 + 1))) hb2 fun a ha => ⟨M3, v6, (ha.sub ⟨Z, Z, Z, Z, Z, Zt⟩), lz2, hC4, hr3⟩
   ·
    obtain rfl := hbb2.trans hc2
    refine cw_false Z (cw_skip (ew_then (cw_region (lw_op Z Z Z (ow_move Z Z (lw_op Z Z Z (ow_move Z Z (lw_op Z Z Z (ow_indexSlice (R := RSpan) Z Z Z (VRep.mono (hl1.trans hl2) h0) Tryd.underlying121 (Tryd.sizeOf120 _) hx1 fun p6 hp6 => lw_op Z Z Z (ow_fieldAddr Z Z Tryd.underlying120 Z (Tryd.sizeOf3 _) (lw_op Z Z Z (ow_load (R := RInt) Z Z (hp6.fld fld_Span_Hi) (Tryd.sizeOf3 _) (Tryd.isAgg3 _) fun v8 hv8 => ?_))))))))))))
    obtain rfl := vint_eq hv8
    exact lw_op Z Z Z (ow_add Z Z Z (lw_op Z Z Z (ow_assign Z Z (lw_nil (ew_blockN (ew_then (cw_region (lw_op Z Z Z (ow_move Z Z (lw_op Z Z Z (ow_add Z Z Z (lw_op Z Z Z (ow_assign Z Z (lw_nil (ew_nxt (y1, (W (x1.Hi + 1)), (W (k2 + 1))) hb2 fun a ha => ⟨M2, v1, (ha.sub ⟨Z, Z, Z, Z, Z, Zt⟩), hl2, hC2, hw1⟩)))))))))))))))
  ·
   obtain rfl := hbb1.trans hc1
   exact cw_false Z (cw_exit (ew_thenX (ew_thenX (ew_blockX (ew_brk (y1, k1, k2) hb2 fun a ha => ⟨M2, v1, (ha.sub ⟨Z, Z, Z, Z, Z, Zt⟩), hl2, hC2, hw1⟩)))))
 ·
  rintro ⟨y2, k3, k4⟩ a w5 hlr2 ⟨M4, v9, hF2, hl5, hC5, hw4⟩
  subst hlr2
  refine ew_at (E := [(0, v0p), (1, (Zv a_top)), (5, v9), (6, (Zv k3)), (7, (Zv k4))]) hF2 (ew_then (cw_seq (cw_seq (cw_region (lw_op Z Z Z (ow_move Z Z (lw_op Z Z Z (ow_move Z Z (lw_op Z Z Z (ow_leq Z Z Z fun bb3 hbb3 => lw_nil (ew_then ?_)))))))))))
  replace h := cond_some h
  rcases h with ⟨hc3, h⟩ | ⟨hc3, h⟩
  ·
   obtain rfl := hbb3.trans hc3
   refine cw_true Z (cw_region (lw_op Z Z Z (ow_move Z Z (lw_op Z Z Z (ow_move Z Z (lw_op Z Z Z (ow_move Z Z (lw_op Z Z Z (ow_build (v := .agg #[(Zv k3), (Zv a_top)]) Z Z (by kernel_rfl) ?_)))))))))
   have hw5 : VRep RSpan w5 M4 ({ Lo := k3, Hi := a_top } : Span) (.agg #[(Zv k3), (Zv a_top)]) := shut_Span
   refine lw_op Z Z Z (ow_buildSlice (R := RSpan) (xs := [({ Lo := k3, Hi := a_top } : Span)]) (cs := #[(Zv k3), (Zv a_top)]) (e := 120) Z Z (by kernel_rfl) Z Z ⟨_, _, Z, hw5.cells, Z⟩ hC5 fun p7 w6 hw6 hb5 hl6 hC6 => ?_)
   have hr4 := hw4.no hb5
   replace h := bind_some h
   obtain ⟨z2, hz2, h⟩ := h
   refine lw_op Z Z Z (ow_append (R := RSpan) Z Z Z Z Tryd.underlying121 hi120 hz120 hs120 hy120 Z Z Z Z hr4 hw6 hz2 hC6 fun v12 w7 M5 hr5 hb6 hl7 hC7 hM3 hat3 => lw_op Z Z Z (ow_assign Z Z (lw_nil (ew_then (cw_seq (cw_region (lw_op Z Z Z (ow_move Z Z (lw_op Z Z Z (ow_assign Z Z (lw_nil (ew_then (cw_ret ?_)))))))))))))
   obtain rfl := sj h
   exact ew_ret (res1 Z (.tmp Z)) ⟨_, Z, (hr5.freezeBack hC7 hO), hC7.bx⟩
  ·
   obtain rfl := hbb3.trans hc3
   refine cw_false Z (cw_skip (ew_then (cw_seq (cw_region (lw_op Z Z Z (ow_move Z Z (lw_op Z Z Z (ow_assign Z Z (lw_nil (ew_then (cw_ret ?_)))))))))))
   obtain rfl := sj h
   exact ew_ret (res1 Z (.tmp Z)) ⟨_, Z, (hw4.freezeBack hC5 hO), hC5.bx⟩

theorem w_spec_TestSpans {w : World} {M : Nat → Prop} (hG : ARep (RArr 4 RShape) w M shapes ⟨0, 0, none⟩) (hO : ∀ b, M b → b < w.heap.size) {v0p : Value} {a_t : Test} (h0 : VRep RTest w M a_t v0p) {r : (List Span)} (h : F.spec_TestSpans a_t = some r) :
  Calls Tryd.prog 104 [v0p].toArray w fun e w' => ∃ v, e = .returned v ∧ VRep (RSlice RSpan) w' M r v ∧ BX No w w' := by
 have hC : Cx No w M w M := Cx.start hO (fun _ e => e.elim)
 refine walk (N := 22) Tryd.func104 Z Tryd.ntmps104 Z (cw_seq (cw_region (lw_op Z Z Z (ow_box (R := RTest) Z Z h0 hC fun p1 w1 hp1 hb1 hl1 hC1 => lw_op Z Z Z (ow_assign Z Z (lw_nil (ew_then (cw_seq (cw_seq (cw_region (lw_op Z Z Z (ow_load (R := RTest) Z Z hp1 (Tryd.sizeOf128 _) (Tryd.isAgg128 _) fun v1 hv1 => ?_))))))))))))
 replace h := bind_some h
 obtain ⟨x1, hx1, h⟩ := h
 refine lw_op Z Z Z (ow_call Z Z Tryd.call157 (w_spec_TestValid (hG.mono hl1) hC1.old hv1 hx1) fun v2 w2 hv2 => ?_)
 obtain ⟨hv2, hb2⟩ := hv2
 have hl2 := Le.no M hb2
 have hC2 := hC1.no hb2
 obtain rfl := vbool_eq hv2
 refine lw_op Z Z Z (ow_not Z Z (lw_nil (ew_then ?_)))
 replace h := cond_some h
 rcases h with ⟨hc1, h⟩ | ⟨hc1, h⟩
 ·
  subst hc1
  refine cw_false Z (cw_skip (ew_then (cw_seq (cw_region (lw_op Z Z Z (ow_fieldAddr Z Z Tryd.underlying128 Z (Tryd.sizeOf3 _) (lw_op Z Z Z (ow_load (R := RInt) Z Z (ARep.mono hl2 (hp1.fld fld_Test_Lo)) (Tryd.sizeOf3 _) (Tryd.isAgg3 _) fun v3 hv3 => ?_))))))))
  obtain rfl := vint_eq hv3
  refine lw_op Z Z Z (ow_fieldAddr Z Z Tryd.underlying128 Z (Tryd.sizeOf3 _) (lw_op Z Z Z (ow_load (R := RInt) Z Z (ARep.mono hl2 (hp1.fld fld_Test_Hi)) (Tryd.sizeOf3 _) (Tryd.isAgg3 _) fun v4 hv4 => ?_)))
  obtain rfl := vint_eq hv4
  refine lw_op Z Z Z (ow_build (v := .agg #[(Zv a_t.Lo), (Zv a_t.Hi)]) Z Z (by kernel_rfl) ?_)
  have hw1 : VRep RSpan w2 M ({ Lo := a_t.Lo, Hi := a_t.Hi } : Span) (.agg #[(Zv a_t.Lo), (Zv a_t.Hi)]) := shut_Span
  refine lw_op Z Z Z (ow_buildSlice (R := RSpan) (xs := [({ Lo := a_t.Lo, Hi := a_t.Hi } : Span)]) (cs := #[(Zv a_t.Lo), (Zv a_t.Hi)]) (e := 120) Z Z (by kernel_rfl) Z Z ⟨_, _, Z, hw1.cells, Z⟩ hC2 fun p2 w3 hw2 hb3 hl3 hC3 => lw_op Z Z Z (ow_assign Z Z (lw_nil (ew_then (cw_seq (cw_seq (cw_region (lw_op Z Z Z (ow_fieldAddr Z Z Tryd.underlying128 Z (Tryd.sizeOf4 _) (lw_op Z Z Z (ow_load (R := RBool) Z Z (ARep.mono (hl2.trans hl3) (hp1.fld fld_Test_Not)) (Tryd.sizeOf4 _) (Tryd.isAgg4 _) fun v5 hv5 => ?_)))))))))))
  obtain ⟨bb1, hbb1, rfl⟩ := vbool_ex hv5
  refine lw_nil (ew_then ?_)
  replace h := cond_some h
  rcases h with ⟨hc2, h⟩ | ⟨hc2, h⟩
  ·
   obtain rfl := hbb1.trans hc2
   refine cw_true Z (cw_seq (cw_region (lw_op Z Z Z (ow_move Z Z (lw_op Z Z Z (ow_fieldAddr Z Z Tryd.underlying128 Z (Tryd.sizeOf3 _) (lw_op Z Z Z (ow_load (R := RInt) Z Z (ARep.mono (hl2.trans hl3) (hp1.fld fld_Test_Field)) (Tryd.sizeOf3 _) (Tryd.isAgg3 _) fun v6 hv6 => ?_))))))))
   obtain rfl := vint_eq hv6
   replace h := bind_some h
   obtain ⟨x2, hx2, h⟩ := h
   have lz1 := ((hl1.trans hl2).trans hl3)
   refine lw_op Z Z Z (ow_call Z Z Tryd.call88 (w_spec_FieldTop (hG.mono lz1) hC3.old hx2) fun v7 w4 hv7 => ?_)
   obtain ⟨hv7, hb4⟩ := hv7
   have hl4 := Le.no M hb4
   have hC4 := hC3.no hb4
   obtain rfl := vint_eq hv7
   replace h := bind_some h
   obtain ⟨x3, hx3, h⟩ := h
   refine lw_op Z Z Z (ow_call Z Z Tryd.call158 (w_spec_l2Other (hG.mono (lz1.trans hl4)) hC4.old (VRep.mono hl4 hw2) hx3) fun v8 w5 hv8 => ?_)
   obtain ⟨hv8, hb5⟩ := hv8
   have hC5 := hC4.no hb5
   refine lw_op Z Z Z (ow_assign Z Z (lw_nil (ew_then (cw_ret (ew_thenR ?_)))))
   obtain rfl := sj h
   exact ew_ret (res1 Z (.tmp Z)) ⟨_, Z, (VRep.mono hC5.back hv8), hC5.bx⟩
  ·
   obtain rfl := hbb1.trans hc2
   refine cw_false Z (cw_skip (ew_then (cw_seq (cw_region (lw_op Z Z Z (ow_move Z Z (lw_op Z Z Z (ow_assign Z Z (lw_nil (ew_then (cw_ret ?_)))))))))))
   obtain rfl := sj h
   exact ew_ret (res1 Z (.tmp Z)) ⟨_, Z, (VRep.mono hC3.back hw2), hC3.bx⟩
 ·
  subst hc1
  refine cw_true Z (cw_seq (cw_region (lw_op Z Z Z (ow_buildSlice0I (R := RSpan) (e := 120) Z (by kernel_rfl) hC2 fun p3 w6 hw3 hb6 hl6 hC6 => lw_op Z Z Z (ow_assign Z Z (lw_nil (ew_then (cw_ret (ew_thenR ?_)))))))))
  obtain rfl := sj h
  exact ew_ret (res1 Z (.tmp Z)) ⟨_, Z, (VRep.mono hC6.back hw3), hC6.bx⟩

theorem wo_spec_TestsBox {w : World} {M : Nat → Prop} (hG : ARep (RArr 4 RShape) w M shapes ⟨0, 0, none⟩) (hO : ∀ b, M b → b < w.heap.size) {v0p : Value} {a_list : List Test} (h0 : VRep (RSlice RTest) w M a_list v0p) {r : Box} (h : F.spec_TestsBox a_list = some r) :
  Calls Tryd.prog 34 [v0p].toArray w fun e w' => ∃ v, e = .returned v ∧ (∃ M' u, v = .agg #[u] ∧ OwnRow (RSlice RSpan) w.heap.size 121 w' M' r.Sides u ∧ Cx No w M w' M') ∧ BX No w w' := by
 have hC : Cx No w M w M := Cx.start hO (fun _ e => e.elim)
 refine walk (N := 38) Tryd.func34 Z Tryd.ntmps34 Z (cw_seq (cw_region (lw_op Z Z Z (ow_alloc Z (Tryd.zeroValue48 _) hC fun g1 w1 hg1 hg2 ho1 hb1 hl1 hC1 => ?_))))
 have hm1 : (Add g1 M) g1 := .inl Z
 refine lw_nil (ew_then (cw_seq (cw_seq (cw_region (lw_op Z Z Z (ow_move Z Z ?_))))))
 replace h := bind_some h
 obtain ⟨x1, hx1, h⟩ := h
 refine lw_op Z Z Z (ow_call Z Z Tryd.call101 (w_spec_TestsValid (hG.mono hl1) hC1.old (VRep.mono hl1 h0) hx1) fun v1 w2 hv1 => ?_)
 obtain ⟨hv1, hb2⟩ := hv1
 have hl2 := Le.no (Add g1 M) hb2
 have hC2 := hC1.no hb2
 have ho2 := ho1.no hb2
 obtain rfl := vbool_eq hv1
 refine lw_op Z Z Z (ow_not Z Z (lw_nil (ew_then ?_)))
 replace h := cond_some h
 rcases h with ⟨hc1, h⟩ | ⟨hc1, h⟩
 ·
  subst hc1
  refine cw_false Z (cw_skip (ew_then (cw_seq (cw_region ?_))))
  replace h := bind_some h
  obtain ⟨x2, hx2, h⟩ := h
  refine lw_op Z Z Z (ow_call Z Z Tryd.call102 (wo_spec_BoxAll (hG.mono (hl1.trans hl2)) hC2.old hx2) fun v2 w3 hv2 => ?_)
  obtain ⟨⟨M1, v3, rfl, hr1, hk1⟩, hb3⟩ := hv2
  replace hr1 := hr1.base hC2.bx.size
  have hl3 := hk1.le
  have hC3 := hC2.trans hk1
  have ho3 := ho2.no hb3
  have hm2 := hk1.sup _ hm1
  obtain ⟨A1, c1, rfl⟩ := hr1.len
  refine lw_op Z Z Z (ow_alloc Z (Tryd.zeroValue48 _) hC3 fun g2 w4 hg3 hg4 ho4 hb4 hl4 hC4 => ?_)
  have hn1 := Nat.ne_of_lt (Nat.lt_of_lt_of_le ho3.lt hg3)
  have ho5 := ho3.no hb4
  have hm3 : (Add g2 M1) g1 := .inr hm2
  have hr2 := hr1.add hb4 hg3
  have hm4 : (Add g2 M1) g2 := .inl Z
  refine lw_op0 Z Z (ow_store (X := No) (us := [(.slice A1 x2.Sides.length c1)]) (cs' := #[(.slice A1 x2.Sides.length c1)]) Z Z Z Z ho4 (Tryd.sizeOf48 _) Z Z Z Z hm4 (.inl hg4) Z hC4 fun w5 ho6 hb5 hl5 hC5 => ?_)
  have ho7 := ho5.go hb5 (fun e => hn1 e)
  have hr3 := hr2.go hb5 (fun k hk e => (orow_ne hr2 ho4 (by decide)) (hk.trans (congrArg some e))) hl5 (fun _ h => h)
  refine lw_nil (ew_then (cw_seq (cw_seq (cw_region (lw_op Z Z Z (ow_assign Z Z (lw_nil (ew_then ?_))))))))
  replace h := bind_some h
  obtain ⟨lr1, hlr1, h⟩ := h
  refine cw_for hlr1 (fun s a w' => ∃ (M' : Nat → Prop), Fits 38 [(0, v0p), (2, (Zw g1 0)), (3, (Zw g2 0)), (4, (Zv s.1))] a ∧ Le w5 (Add g2 M1) w' M' ∧ Cx No w M w' M' ∧ OwnRow (RSlice RSpan) w.heap.size 121 w' M' s.2 (.slice A1 x2.Sides.length c1) ∧ Own w' g1 48 #[(.slice none 0 0)] ∧ M' g1 ∧ Own w' g2 48 #[(.slice A1 x2.Sides.length c1)] ∧ M' g2) ?_ ?_ ?_
  · exact fun a ha => ⟨(Add g2 M1), ha.sub ⟨Z, Z, Z, Z, Zt⟩, Le.refl _ _, hC5, hr3, ho7, hm3, ho6, hm4⟩
  ·
   rintro ⟨k1, y1⟩ a w6 sr1 ⟨M2, hF1, hl6, hC6, hw1, ho8, hm5, ho9, hm6⟩ hb6 hR1
   refine cw_at (E := [(0, v0p), (2, (Zw g1 0)), (3, (Zw g2 0)), (4, (Zv k1))]) hF1 (cw_seq (cw_seq (cw_region (lw_op Z Z Z (ow_move Z Z (lw_op Z Z Z (ow_move Z Z ?_)))))))
   have lz1 := (((((hl1.trans hl2).trans hl3).trans hl4).trans hl5).trans hl6)
   refine lw_op Z Z Z (ow_len Z Z (VRep.mono lz1 h0) Tryd.underlying36 Z (lw_op Z Z Z (ow_lss Z Z Z fun bb1 hbb1 => lw_nil (ew_then ?_))))
   replace hb6 := cond_some hb6
   rcases hb6 with ⟨hc2, hb6⟩ | ⟨hc2, hb6⟩
   ·
    obtain rfl := hbb1.trans hc2
    refine cw_true Z (cw_skip (ew_then (cw_seq (cw_block (cw_seq (cw_region (lw_op Z Z Z (ow_move Z Z (lw_op Z Z Z (ow_move Z Z ?_))))))))))
    replace hb6 := bind_some hb6
    obtain ⟨x3, hx3, hb6⟩ := hb6
    refine lw_op Z Z Z (ow_indexSlice (R := RTest) Z Z Z (VRep.mono lz1 h0) Tryd.underlying36 (Tryd.sizeOf128 _) hx3 fun p1 hp1 => lw_op Z Z Z (ow_fieldAddr Z Z Tryd.underlying128 Z (Tryd.sizeOf3 _) (lw_op Z Z Z (ow_load (R := RInt) Z Z (hp1.fld fld_Test_Field) (Tryd.sizeOf3 _) (Tryd.isAgg3 _) fun v6 hv6 => ?_))))
    obtain rfl := vint_eq hv6
    refine lw_op Z Z Z (ow_assign Z Z (lw_nil (ew_then ?_)))
    replace hb6 := bind_some hb6
    obtain ⟨x4, hx4, hb6⟩ := hb6
    replace hb6 := bind_some hb6
    obtain ⟨x5, hx5, hb6⟩ := hb6
    replace hb6 := bind_some hb6
    obtain ⟨x6, hx6, hb6⟩ := hb6
    refine cw_sub (E' := [(0, v0p), (2, (Zw g1 0)), (3, (Zw g2 0)), (4, (Zv k1)), (5, (Zv x3.Field))]) ⟨Z, Z, Z, Z, Z, Zt⟩ (cw_drawQ 14 [PEq (Zw g2 0), PEq (.slice A1 x2.Sides.length c1), PEq (Zv x3.Field), PEq (Zw g2 0), PEq (.slice A1 x2.Sides.length c1), PEq (Zv x3.Field), PEq (.pointer (some ⟨blk (.slice A1 x2.Sides.length c1), (x3.Field : Int).toNat * (RSlice RSpan).size + 0, none⟩)), PV (RSlice RSpan) M2 x4, PV (RSlice RTest) M2 a_list, PEq (Zv k1), PA RTest M2 x3, PV RTest M2 x3, PV (RSlice RSpan) M2 x5, PV (RSlice RSpan) M2 x6] (by kernel_rfl) Z (by kernel_rfl) ⟨Zq, Zq, Zq, Zq, Zq, Zq, Zq, PV.mono _ _ _, PV.mono _ _ _, Zq, PA.mono _ _ _, PV.mono _ _ _, PV.mono _ _ _, PV.mono _ _ _, Zt⟩ ⟨?_, ?_, ?_, ?_, ?_, ?_, ?_, ?_, ?_, ?_, ?_, ?_, ?_, ?_, Zt⟩ ?_)
    · exact fun w9 D hS1 hd1 => dg_sub (E' := [(3, (Zw g2 0))]) ⟨Z, Zt⟩ (dg_plain Z (ow_fieldAddr Z Z Tryd.underlying48 Z (Tryd.sizeOf46 _) Zb))
    ·
     intro w10 D hS2 hd2
     have ho17 := ho9.no hS2
     exact dg_sub (E' := [(22, (Zw g2 0))]) ⟨dpE hd2 0 Z Z, Zt⟩ (dg_plain Z (ow_loadOwn1 Z Z Z ho17 (Tryd.isAgg46 _) Z Zb))
    · exact fun w11 D hS3 hd3 => dg_sub (E' := [(5, (Zv x3.Field))]) ⟨Z, Zt⟩ (dg_plain Z (ow_move Z Z Zb))
    · exact fun w12 D hS4 hd4 => dg_sub (E' := [(3, (Zw g2 0))]) ⟨Z, Zt⟩ (dg_plain Z (ow_fieldAddr Z Z Tryd.underlying48 Z (Tryd.sizeOf46 _) Zb))
    ·
     intro w13 D hS5 hd5
     have ho23 := ho9.no hS5
     exact dg_sub (E' := [(25, (Zw g2 0))]) ⟨dpE hd5 3 Z Z, Zt⟩ (dg_plain Z (ow_loadOwn1 Z Z Z ho23 (Tryd.isAgg46 _) Z Zb))
    · exact fun w14 D hS6 hd6 => dg_sub (E' := [(5, (Zv x3.Field))]) ⟨Z, Zt⟩ (dg_plain Z (ow_move Z Z Zb))
    ·
     intro w15 D hS7 hd7
     have hr12 := hw1.no hS7
     exact dg_sub (E' := [(26, (.slice A1 x2.Sides.length c1)), (27, (Zv x3.Field))]) ⟨dpE hd7 4 Z Z, dpE hd7 5 Z Z, Zt⟩ (dg_plain Z (ow_indexRow (R := (RSlice RSpan)) Z Z Z hr12 Tryd.underlying46 (Tryd.sizeOf121 _) hx4 Zb))
    ·
     intro w16 D hS8 hd8
     have hr13 := hw1.no hS8
     exact dg_sub (E' := [(28, (.pointer (some ⟨blk (.slice A1 x2.Sides.length c1), (x3.Field : Int).toNat * (RSlice RSpan).size + 0, none⟩)))]) ⟨dpE hd8 6 Z Z, Zt⟩ (dg_plain Z (ow_loadElRow (R := (RSlice RSpan)) (S := (RSlice RSpan)) Z Z Z hr13 (orow_blk hr13 hx4) hx4 (Fld.whole (RSlice RSpan)) (Tryd.sizeOf121 _) (Tryd.isAgg121 _) fun v11 hv11 => ⟨BX.refl _ _, hv11⟩))
    ·
     intro w17 D hS9 hd9
     have hl17 := Le.no M2 hS9
     exact dg_sub (E' := [(0, v0p)]) ⟨Z, Zt⟩ (dg_plain Z (ow_move Z Z ⟨BX.refl _ _, (VRep.mono (lz1.trans hl17) h0)⟩))
    · exact fun w18 D hS10 hd10 => dg_sub (E' := [(4, (Zv k1))]) ⟨Z, Zt⟩ (dg_plain Z (ow_move Z Z Zb))
    ·
     intro w19 D hS11 hd11
     have d6 : PV (RSlice RTest) M2 a_list (D 8) w19 := dpA hd11 8 Z
     generalize hq1 : (D 8) = v12 at d6
     exact dg_sub (E' := [(30, v12), (31, (Zv k1))]) ⟨congrArg some hq1, dpE hd11 9 Z Z, Zt⟩ (dg_plain Z (ow_indexSlice (R := RTest) Z Z Z d6 Tryd.underlying36 (Tryd.sizeOf128 _) hx3 fun p3 hp3 => ⟨BX.refl _ _, ⟨_, Z, hp3⟩⟩))
    ·
     intro w20 D hS12 hd12
     have d8 : PA RTest M2 x3 (D 10) w20 := dpA hd12 10 Z
     obtain ⟨p4, e1, ha1⟩ := d8
     exact dg_sub (E' := [(32, (.pointer (some p4)))]) ⟨congrArg some e1, Zt⟩ (dg_plain Z (ow_load (R := RTest) Z Z ha1 (Tryd.sizeOf128 _) (Tryd.isAgg128 _) fun v13 hv13 => ⟨BX.refl _ _, hv13⟩))
    ·
     intro w21 D hS13 hd13
     have hl21 := Le.no M2 hS13
     have hC21 := hC6.no hS13
     have d9 : PV RTest M2 x3 (D 11) w21 := dpA hd13 11 Z
     generalize hq2 : (D 11) = v14 at d9
     refine dg_sub (E' := [(33, v14)]) ⟨congrArg some hq2, Zt⟩ (dg_plain Z (ow_call Z Z Tryd.call104 (w_spec_TestSpans (hG.mono (lz1.trans hl21)) hC21.old d9 hx5) fun v15 w22 hv15 => ?_))
     obtain ⟨hv15, hb9⟩ := hv15
     exact ⟨hb9, hv15⟩
    ·
     intro w23 D hS14 hd14
     have hl23 := Le.no M2 hS14
     have hC23 := hC6.no hS14
     have d10 : PV (RSlice RSpan) M2 x4 (D 7) w23 := dpA hd14 7 Z
     have d11 : PV (RSlice RSpan) M2 x5 (D 12) w23 := dpA hd14 12 Z
     generalize hq3 : (D 7) = v16 at d10
     generalize hq4 : (D 12) = v17 at d11
     refine dg_sub (E' := [(29, v16), (34, v17)]) ⟨congrArg some hq3, congrArg some hq4, Zt⟩ (dg_plain Z (ow_call Z Z Tryd.call103 (w_spec_l2Meet (hG.mono (lz1.trans hl23)) hC23.old d10 d11 hx6) fun v18 w24 hv18 => ?_))
     obtain ⟨hv18, hb10⟩ := hv18
     exact ⟨hb10, hv18⟩
    ·
     intro w25 D hS15 hd15
     have d26 : PV (RSlice RSpan) M2 x6 (D 13) w25 := dpA hd15 13 Z
     have hl25 := Le.no M2 hS15
     have hC25 := hC6.no hS15
     have ho46 := ho8.no hS15
     have ho47 := ho9.no hS15
     have hr22 := hw1.no hS15
     generalize hq5 : (D 13) = v19 at d26
     refine lw_sub (E' := [(23, (.slice A1 x2.Sides.length c1)), (24, (Zv x3.Field)), (35, v19), (0, v0p), (2, (Zw g1 0)), (3, (Zw g2 0)), (4, (Zv k1)), (5, (Zv x3.Field))]) ⟨dpE hd15 1 Z Z, dpE hd15 2 Z Z, congrArg some hq5, Z, Z, Z, Z, Z, Zt⟩ (lw_op Z Z Z (ow_indexRow (R := (RSlice RSpan)) Z Z Z hr22 Tryd.underlying46 (Tryd.sizeOf121 _) hx4 (lw_op0 Z Z (ow_storeElRow (X := No) (R := (RSlice RSpan)) (S := (RSlice RSpan)) Z Z Z Z hr22 (orow_blk hr22 hx4) hx4 (FldSet.whole (RSlice RSpan)) (Tryd.sizeOf121 _) d26 (Nat.le_refl _) hC25 fun w26 ho48 hb11 hl26 hC26 => ?_))))
     have ho49 := ho46.go hb11 (fun e => (orow_ne hr22 ho46 (by decide)) (by rw [orow_blk hr22 hx4]; exact congrArg some e.symm))
     have ho50 := ho47.go hb11 (fun e => (orow_ne hr22 ho47 (by decide)) (by rw [orow_blk hr22 hx4]; exact congrArg some e.symm))
     refine lw_nil (ew_blockN (ew_then (cw_region (lw_op Z Z Z (ow_move Z Z (lw_op Z Z Z (ow_add Z Z Z (lw_op Z Z Z (ow_assign Z Z (lw_nil ?_))))))))))
     have lz2 := ((hl6.trans hl25).trans hl26)
     exact ew_nxt ((W (k1 + 1)), (List.set y1 (x3.Field : Int).toNat x6)) hb6 fun a ha => ⟨M2, (ha.sub ⟨Z, Z, Z, Z, Zt⟩), lz2, hC26, ho48, ho49, hm5, ho50, hm6⟩
   ·
    obtain rfl := hbb1.trans hc2
    exact cw_false Z (cw_exit (ew_thenX (ew_thenX (ew_blockX (ew_brk (k1, y1) hb6 fun a ha => ⟨M2, (ha.sub ⟨Z, Z, Z, Z, Zt⟩), hl6, hC6, hw1, ho8, hm5, ho9, hm6⟩)))))
  ·
   rintro ⟨k2, y2⟩ a w27 hlr2 ⟨M3, hF2, hl27, hC27, hw2, ho51, hm7, ho52, hm8⟩
   subst hlr2
   refine ew_at (E := [(0, v0p), (2, (Zw g1 0)), (3, (Zw g2 0)), (4, (Zv k2))]) hF2 (ew_then (cw_seq (cw_region (lw_op Z Z Z (ow_loadOwnA Z Z Z ho52 (Tryd.isAgg48 _) (Tryd.sizeOf48 _) Z (lw_op0 Z Z (ow_store (X := No) (us := [(.slice A1 x2.Sides.length c1)]) (cs' := #[(.slice A1 x2.Sides.length c1)]) Z Z Z Z ho51 (Tryd.sizeOf48 _) Z Z Z Z hm7 (.inl hg2) Z hC27 fun w28 ho53 hb12 hl28 hC28 => ?_)))))))
   have hr23 := hw2.go hb12 (fun k hk e => (orow_ne hw2 ho51 (by decide)) (hk.trans (congrArg some e))) hl28 (fun _ h => h)
   refine lw_nil (ew_then (cw_ret ?_))
   obtain rfl := sj h
   exact ew_ret (res1 Z (.cell Z (own_loadVarA ho53 (Tryd.isAgg48 _) (Tryd.sizeOf48 _) Z))) ⟨_, Z, ⟨M3, _, Z, hr23, hC28⟩, hC28.bx⟩
 ·
  subst hc1
  refine cw_true Z (cw_seq (cw_region (lw_op Z Z Z (ow_build (v := .agg #[(.slice none 0 0)]) Z Z (by kernel_rfl) (lw_op0 Z Z (ow_store (X := No) (us := [(.slice none 0 0)]) (cs' := #[(.slice none 0 0)]) Z Z Z Z ho2 (Tryd.sizeOf48 _) Z Z Z Z hm1 (.inl hg2) Z hC2 fun w29 ho55 hb13 hl29 hC29 => lw_nil (ew_then (cw_ret (ew_thenR ?_)))))))))
  obtain rfl := sj h
  exact ew_ret (res1 Z (.cell Z (own_loadVarA ho55 (Tryd.isAgg48 _) (Tryd.sizeOf48 _) Z))) ⟨_, Z, ⟨(Add g1 M), _, Z, ownrow_nil, hC29⟩, hC29.bx⟩

theorem w_spec_TestsBox {w : World} {M : Nat → Prop} (hG : ARep (RArr 4 RShape) w M shapes ⟨0, 0, none⟩) (hO : ∀ b, M b → b < w.heap.size) {v0p : Value} {a_list : List Test} (h0 : VRep (RSlice RTest) w M a_list v0p) {r : Box} (h : F.spec_TestsBox a_list = some r) :
  Calls Tryd.prog 34 [v0p].toArray w fun e w' => ∃ v, e = .returned v ∧ VRep RBox w' M r v ∧ BX No w w' := by
 refine Calls.mono (wo_spec_TestsBox hG hO h0 h) fun e w1 hz => ?_
 obtain ⟨v, e1, ⟨M1, u, rfl, hr, hc⟩, hb⟩ := hz
 obtain ⟨A0, c0, rfl⟩ := hr.len
 exact ⟨_, e1, shut_Box (hr.freezeBack hc hO), hb⟩

theorem w_laws_toTest {w : World} {M : Nat → Prop} (_hG : ARep (RArr 4 RShape) w M shapes ⟨0, 0, none⟩) (hO : ∀ b, M b → b < w.heap.size) {v0p : Value} {a_a : Test} (h0 : VRep RTest w M a_a v0p) {r : Test} (h : F.laws_toTest a_a = some r) :
  Calls Tryd.prog 105 [v0p].toArray w fun e w' => ∃ v, e = .returned v ∧ VRep RTest w' M r v ∧ BX No w w' := by
 have hC : Cx No w M w M := Cx.start hO (fun _ e => e.elim)
 clear _hG
 refine walk (N := 17) Tryd.func105 Z Tryd.ntmps105 Z (cw_seq (cw_region (lw_op Z Z Z (ow_box (R := RTest) Z Z h0 hC fun p1 w1 hp1 hb1 hl1 hC1 => lw_op Z Z Z (ow_alloc Z (Tryd.zeroValue128 _) hC1 fun g1 w2 hg1 hg2 ho1 hb2 hl2 hC2 => ?_)))))
 have hm1 : (Add g1 M) g1 := .inl Z
 refine lw_nil (ew_then (cw_seq (cw_region (lw_op Z Z Z (ow_alloc Z (Tryd.zeroValue128 _) hC2 fun g2 w3 hg3 hg4 ho2 hb3 hl3 hC3 => ?_)))))
 have hn1 := Nat.ne_of_lt (Nat.lt_of_lt_of_le ho1.lt hg3)
 have ho3 := ho1.no hb3
 have hm2 : (Add g2 (Add g1 M)) g1 := .inr hm1
 have hm3 : (Add g2 (Add g1 M)) g2 := .inl Z
 refine lw_nil (ew_then (cw_seq (cw_region (lw_op Z Z Z (ow_fieldAddr Z Z Tryd.underlying146 Z (Tryd.sizeOf3 _) (lw_op Z Z Z (ow_load (R := RInt) Z Z (ARep.mono (hl2.trans hl3) (hp1.fld fld_Test_Field)) (Tryd.sizeOf3 _) (Tryd.isAgg3 _) fun v1 hv1 => ?_)))))))
 obtain rfl := vint_eq hv1
 refine lw_op Z Z Z (ow_fieldAddr Z Z Tryd.underlying128 Z (Tryd.sizeOf3 _) (lw_op0 Z Z (ow_store (X := No) (us := [(Zv a_a.Field)]) (cs' := #[(Zv a_a.Field), (Zv 0), (Zv 0), (.bool false)]) Z Z Z Z ho2 (Tryd.sizeOf3 _) Z Z Z Z hm3 (.inl hg4) Z hC3 fun w4 ho4 hb4 hl4 hC4 => ?_)))
 have ho5 := ho3.go hb4 (fun e => hn1 e)
 refine lw_nil (ew_then (cw_seq (cw_region (lw_op Z Z Z (ow_fieldAddr Z Z Tryd.underlying146 Z (Tryd.sizeOf3 _) ?_)))))
 have lz1 := ((hl2.trans hl3).trans hl4)
 refine lw_op Z Z Z (ow_load (R := RInt) Z Z (ARep.mono lz1 (hp1.fld fld_Test_Lo)) (Tryd.sizeOf3 _) (Tryd.isAgg3 _) fun v2 hv2 => ?_)
 obtain rfl := vint_eq hv2
 refine lw_op Z Z Z (ow_fieldAddr Z Z Tryd.underlying128 Z (Tryd.sizeOf3 _) (lw_op0 Z Z (ow_store (X := No) (us := [(Zv a_a.Lo)]) (cs' := #[(Zv a_a.Field), (Zv a_a.Lo), (Zv 0), (.bool false)]) Z Z Z Z ho4 (Tryd.sizeOf3 _) Z Z Z Z hm3 (.inl hg4) Z hC4 fun w5 ho6 hb5 hl5 hC5 => ?_)))
 have ho7 := ho5.go hb5 (fun e => hn1 e)
 refine lw_nil (ew_then (cw_seq (cw_region (lw_op Z Z Z (ow_fieldAddr Z Z Tryd.underlying146 Z (Tryd.sizeOf3 _) (lw_op Z Z Z (ow_load (R := RInt) Z Z (ARep.mono (lz1.trans hl5) (hp1.fld fld_Test_Hi)) (Tryd.sizeOf3 _) (Tryd.isAgg3 _) fun v3 hv3 => ?_)))))))
 obtain rfl := vint_eq hv3
 refine lw_op Z Z Z (ow_fieldAddr Z Z Tryd.underlying128 Z (Tryd.sizeOf3 _) (lw_op0 Z Z (ow_store (X := No) (us := [(Zv a_a.Hi)]) (cs' := #[(Zv a_a.Field), (Zv a_a.Lo), (Zv a_a.Hi), (.bool false)]) Z Z Z Z ho6 (Tryd.sizeOf3 _) Z Z Z Z hm3 (.inl hg4) Z hC5 fun w6 ho8 hb6 hl6 hC6 => ?_)))
 have ho9 := ho7.go hb6 (fun e => hn1 e)
 refine lw_nil (ew_then (cw_seq (cw_region (lw_op Z Z Z (ow_fieldAddr Z Z Tryd.underlying146 Z (Tryd.sizeOf4 _) ?_)))))
 have lz2 := ((lz1.trans hl5).trans hl6)
 refine lw_op Z Z Z (ow_load (R := RBool) Z Z (ARep.mono lz2 (hp1.fld fld_Test_Not)) (Tryd.sizeOf4 _) (Tryd.isAgg4 _) fun v4 hv4 => ?_)
 obtain ⟨bb1, hbb1, rfl⟩ := vbool_ex hv4
 refine lw_op Z Z Z (ow_fieldAddr Z Z Tryd.underlying128 Z (Tryd.sizeOf4 _) (lw_op0 Z Z (ow_store (X := No) (us := [(.bool bb1)]) (cs' := #[(Zv a_a.Field), (Zv a_a.Lo), (Zv a_a.Hi), (.bool bb1)]) Z Z Z Z ho8 (Tryd.sizeOf4 _) Z Z Z Z hm3 (.inl hg4) Z hC6 fun w7 ho10 hb7 hl7 hC7 => ?_)))
 have ho11 := ho9.go hb7 (fun e => hn1 e)
 refine lw_nil (ew_then (cw_seq (cw_region (lw_op Z Z Z (ow_loadOwnA Z Z Z ho10 (Tryd.isAgg128 _) (Tryd.sizeOf128 _) Z (lw_op0 Z Z (ow_store (X := No) (us := [(Zv a_a.Field), (Zv a_a.Lo), (Zv a_a.Hi), (.bool bb1)]) (cs' := #[(Zv a_a.Field), (Zv a_a.Lo), (Zv a_a.Hi), (.bool bb1)]) Z Z Z Z ho11 (Tryd.sizeOf128 _) Z Z Z Z hm2 (.inl hg2) Z hC7 fun w8 ho12 hb8 hl8 hC8 => lw_nil (ew_then (cw_ret ?_)))))))))
 have hw2 : VRep RTest w8 (Add g2 (Add g1 M)) ({ Field := a_a.Field, Lo := a_a.Lo, Hi := a_a.Hi, Not := a_a.Not } : Test) (.agg #[(Zv a_a.Field), (Zv a_a.Lo), (Zv a_a.Hi), (.bool bb1)]) := by subst hbb1; exact shut_Test
 obtain rfl := sj h
 exact ew_ret (res1 Z (.cell Z (own_loadVarA ho12 (Tryd.isAgg128 _) (Tryd.sizeOf128 _) Z))) ⟨_, Z, (hw2.mono hC8.back), hC8.bx⟩

theorem wu_laws_toTestS {w : World} {M : Nat → Prop} (hG : ARep (RArr 4 RShape) w M shapes ⟨0, 0, none⟩) (hO : ∀ b, M b → b < w.heap.size) {Y : Nat → Prop} (hY : ∀ b, w.heap.size ≤ b → Y b) {v0p : Value} {a_a : List Test} (h0 : VRep (RSlice RTest) w M a_a v0p) {r : (List Test)} (h : F.laws_toTestS a_a = some r) :
  Calls Tryd.prog 35 [v0p].toArray w fun e w' => ∃ v, e = .returned v ∧ VRep (RSliceU Y RTest) w' M r v ∧ BX No w w' := by
 obtain ⟨i128, hi128, hz128, hs128, hy128⟩ := info128
 have hC : Cx No w M w M := Cx.start hO (fun _ e => e.elim)
 refine walk (N := 23) Tryd.func35 Z Tryd.ntmps35 Z (cw_seq (cw_region (lw_op Z Z Z (ow_assign Z Z (lw_nil (ew_then (cw_seq (cw_region (lw_op Z Z Z (ow_move Z Z (lw_op Z Z Z (ow_len Z Z h0 Tryd.underlying57 Z ?_))))))))))))
 replace h := bind_some h
 obtain ⟨mk1, hmk1, h⟩ := h
 refine lw_op Z Z Z (ow_make (R := RTest) Z Z Z Tryd.underlying36 hi128 hz128 hs128 hy128 Z Z (shut_Test) hmk1 hC fun v1 w1 M1 hr1 hb1 hl1 hC1 hM1 hat1 => lw_op Z Z Z (ow_assign Z Z (lw_nil (ew_then (cw_seq (cw_seq (cw_region (lw_op Z Z Z (ow_assign Z Z (lw_nil (ew_then ?_)))))))))))
 replace h := bind_some h
 obtain ⟨lr1, hlr1, h⟩ := h
 refine cw_for hlr1 (fun s a w' => ∃ (M' : Nat → Prop), Fits 23 [(0, v0p), (3, v1), (4, (Zv s.1))] a ∧ Le w1 M1 w' M' ∧ Cx No w M w' M' ∧ OwnRow RTest w.heap.size 128 w' M' s.2 v1) ?_ ?_ ?_
 · exact fun a ha => ⟨M1, ha.sub ⟨Z, Z, Z, Zt⟩, Le.refl _ _, hC1, hr1⟩
 ·
  rintro ⟨k1, y1⟩ a w2 sr1 ⟨M2, hF1, hl2, hC2, hw1⟩ hb2 hR1
  refine cw_at (E := [(0, v0p), (3, v1), (4, (Zv k1))]) hF1 (cw_seq (cw_seq (cw_region (lw_op Z Z Z (ow_move Z Z (lw_op Z Z Z (ow_move Z Z (lw_op Z Z Z (ow_len Z Z (VRep.mono (hl1.trans hl2) h0) Tryd.underlying57 Z (lw_op Z Z Z (ow_lss Z Z Z fun bb1 hbb1 => lw_nil (ew_then ?_))))))))))))
  replace hb2 := cond_some hb2
  rcases hb2 with ⟨hc1, hb2⟩ | ⟨hc1, hb2⟩
  ·
   obtain rfl := hbb1.trans hc1
   refine cw_true Z (cw_skip (ew_then (cw_seq (cw_block (cw_region (lw_op Z Z Z (ow_move Z Z (lw_op Z Z Z (ow_move Z Z (lw_op Z Z Z (ow_move Z Z (lw_op Z Z Z (ow_move Z Z ?_)))))))))))))
   replace hb2 := bind_some hb2
   obtain ⟨x1, hx1, hb2⟩ := hb2
   refine lw_op Z Z Z (ow_indexSlice (R := RTest) Z Z Z (VRep.mono (hl1.trans hl2) h0) Tryd.underlying57 (Tryd.sizeOf146 _) hx1 fun p1 hp1 => lw_op Z Z Z (ow_load (R := RTest) Z Z hp1 (Tryd.sizeOf146 _) (Tryd.isAgg146 _) fun v4 hv4 => ?_))
   replace hb2 := bind_some hb2
   obtain ⟨x2, hx2, hb2⟩ := hb2
   refine lw_op Z Z Z (ow_call Z Z Tryd.call105 (w_laws_toTest (hG.mono (hl1.trans hl2)) hC2.old hv4 hx2) fun v5 w3 hv5 => ?_)
   obtain ⟨hv5, hb3⟩ := hv5
   have hl3 := Le.no M2 hb3
   have hC3 := hC2.no hb3
   have hr2 := hw1.no hb3
   replace hb2 := bind_some hb2
   obtain ⟨x3, hx3, hb2⟩ := hb2
   refine lw_op Z Z Z (ow_indexRow (R := RTest) Z Z Z hr2 Tryd.underlying36 (Tryd.sizeOf128 _) hx3 (lw_op0 Z Z (ow_storeElRow (X := No) (R := RTest) (S := RTest) Z Z Z Z hr2 (orow_blk hr2 hx3) hx3 (FldSet.whole RTest) (Tryd.sizeOf128 _) hv5 (Nat.le_refl _) hC3 fun w4 ho1 hb4 hl4 hC4 => lw_nil (ew_blockN (ew_then (cw_region (lw_op Z Z Z (ow_move Z Z (lw_op Z Z Z (ow_add Z Z Z (lw_op Z Z Z (ow_assign Z Z (lw_nil ?_)))))))))))))
   have lz1 := ((hl2.trans hl3).trans hl4)
   exact ew_nxt ((W (k1 + 1)), (List.set y1 (k1 : Int).toNat x2)) hb2 fun a ha => ⟨M2, (ha.sub ⟨Z, Z, Z, Zt⟩), lz1, hC4, ho1⟩
  ·
   obtain rfl := hbb1.trans hc1
   exact cw_false Z (cw_exit (ew_thenX (ew_thenX (ew_blockX (ew_brk (k1, y1) hb2 fun a ha => ⟨M2, (ha.sub ⟨Z, Z, Z, Zt⟩), hl2, hC2, hw1⟩)))))
 ·
  rintro ⟨k2, y2⟩ a w5 hlr2 ⟨M3, hF2, hl5, hC5, hw2⟩
  subst hlr2
  refine ew_at (E := [(0, v0p), (3, v1), (4, (Zv k2))]) hF2 (ew_then (cw_seq (cw_region (lw_op Z Z Z (ow_move Z Z (lw_op Z Z Z (ow_assign Z Z (lw_nil (ew_then (cw_ret ?_))))))))))
  obtain rfl := sj h
  exact ew_ret (res1 Z (.tmp Z)) ⟨_, Z, (hw2.freezeBackU hC5 hO hY), hC5.bx⟩

theorem w_impl_FieldTop {w : World} {M : Nat → Prop} (hG : ARep (RArr 4 RShape) w M shapes ⟨0, 0, none⟩) (hO : ∀ b, M b → b < w.heap.size) {a_n : Int} {r : Int} (h : F.impl_FieldTop a_n = some r) :
  Calls Tryd.prog 142 [(.int .i64 a_n)].toArray w fun e w' => ∃ v, e = .returned v ∧ VRep RInt w' M r v ∧ BX No w w' := by
 have hC : Cx No w M w M := Cx.start hO (fun _ e => e.elim)
 refine walk (N := 13) Tryd.func142 Z Tryd.ntmps142 Z (cw_seq (cw_region (lw_op Z Z Z (ow_assign Z Z (lw_nil (ew_then (cw_seq (cw_seq (cw_region (lw_op Z Z Z (ow_move Z Z (lw_op Z Z Z (ow_lss Z Z Z fun bb1 hbb1 => lw_op Z Z Z (ow_move Z Z ?_))))))))))))))
 replace h := cond_some h
 rcases h with ⟨hc1, h⟩ | ⟨hc1, h⟩
 ·
  obtain rfl := hbb1.trans hc1
  refine lw_off Z Z Z Z Z Z (lw_off Z Z Z Z Z Z (lw_op Z Z Z (ow_pickT Z Z Z (lw_nil (ew_then (cw_true Z (cw_seq (cw_region (lw_op Z Z Z (ow_assign Z Z (lw_nil (ew_then (cw_ret (ew_thenR ?_))))))))))))))
  obtain rfl := sj h
  exact ew_ret (res1 Z (.tmp Z)) ⟨_, Z, ((vint _)), hC.bx⟩
 ·
  obtain rfl := hbb1.trans hc1
  refine lw_on Z Z Z Z Z Z (ow_move Z Z (lw_on Z Z Z Z Z Z (ow_geq Z Z Z fun bb2 hbb2 => lw_op Z Z Z (ow_pickF Z Z Z (lw_nil (ew_then ?_))))))
  replace h := cond_some h
  rcases h with ⟨hc2, h⟩ | ⟨hc2, h⟩
  ·
   obtain rfl := hbb2.trans hc2
   refine cw_true Z (cw_seq (cw_region (lw_op Z Z Z (ow_assign Z Z (lw_nil (ew_then (cw_ret (ew_thenR ?_))))))))
   obtain rfl := sj h
   exact ew_ret (res1 Z (.tmp Z)) ⟨_, Z, ((vint _)), hC.bx⟩
  ·
   obtain rfl := hbb2.trans hc2
   refine cw_false Z (cw_skip (ew_then (cw_seq (cw_region (lw_op Z Z Z (ow_move Z Z ?_))))))
   replace h := bind_some h
   obtain ⟨x1, hx1, h⟩ := h
   refine lw_op Z Z Z (ow_indexArr (R := RShape) Z Z Z hG Tryd.underlying135 (Tryd.sizeOf134 _) hx1 fun p1 hp1 => lw_op Z Z Z (ow_fieldAddr Z Z Tryd.underlying134 Z (Tryd.sizeOf3 _) (lw_op Z Z Z (ow_load (R := RInt) Z Z (hp1.fld fld_Shape_top) (Tryd.sizeOf3 _) (Tryd.isAgg3 _) fun v1 hv1 => ?_))))
   obtain rfl := vint_eq hv1
   refine lw_op Z Z Z (ow_assign Z Z (lw_nil (ew_then (cw_ret ?_))))
   obtain rfl := sj h
   exact ew_ret (res1 Z (.tmp Z)) ⟨_, Z, ((vint _)), hC.bx⟩

theorem w_impl_TestValid {w : World} {M : Nat → Prop} (hG : ARep (RArr 4 RShape) w M shapes ⟨0, 0, none⟩) (hO : ∀ b, M b → b < w.heap.size) {v0p : Value} {a_t : Test} (h0 : VRep RTest w M a_t v0p) {r : Bool} (h : F.impl_TestValid a_t = some r) :
  Calls Tryd.prog 159 [v0p].toArray w fun e w' => ∃ v, e = .returned v ∧ VRep RBool w' M r v ∧ BX No w w' := by
 have hC : Cx No w M w M := Cx.start hO (fun _ e => e.elim)
 refine walk (N := 31) Tryd.func159 Z Tryd.ntmps159 Z (cw_seq (cw_region (lw_op Z Z Z (ow_box (R := RTest) Z Z h0 hC fun p1 w1 hp1 hb1 hl1 hC1 => lw_op Z Z Z (ow_assign Z Z (lw_nil (ew_then (cw_seq ?_))))))))
 replace h := cond_some h
 rcases h with ⟨hc1, h⟩ | ⟨hc1, h⟩
 ·
  replace h := cond_some h
  rcases h with ⟨hc2, h⟩ | ⟨hc2, h⟩
  ·
   replace h := cond_some h
   rcases h with ⟨hc3, h⟩ | ⟨hc3, h⟩
   ·
    replace h := cond_some h
    rcases h with ⟨hc4, h⟩ | ⟨hc4, h⟩
    ·
     replace h := bind_some h
     obtain ⟨x1, hx1, h⟩ := h
     refine cw_sub (E' := [(1, (.pointer (some p1))), (2, (.bool false))]) ⟨Z, Z, Zt⟩ (cw_drawQ 26 [PA RInt M a_t.Field, PEq (Zv a_t.Field), PEq (.bool true), PEq (.bool true), PA RInt M a_t.Field, PEq (Zv a_t.Field), PEq (.bool true), PEq (.bool true), PEq (.bool true), PA RInt M a_t.Lo, PEq (Zv a_t.Lo), PEq (.bool true), PEq (.bool true), PEq (.bool true), PA RInt M a_t.Lo, PEq (Zv a_t.Lo), PA RInt M a_t.Hi, PEq (Zv a_t.Hi), PEq (.bool true), PEq (.bool true), PEq (.bool true), PA RInt M a_t.Hi, PEq (Zv a_t.Hi), PA RInt M a_t.Field, PEq (Zv a_t.Field), PEq (Zv x1)] (by kernel_rfl) Z (by kernel_rfl) ⟨PA.mono _ _ _, Zq, Zq, Zq, PA.mono _ _ _, Zq, Zq, Zq, Zq, PA.mono _ _ _, Zq, Zq, Zq, Zq, PA.mono _ _ _, Zq, PA.mono _ _ _, Zq, Zq, Zq, Zq, PA.mono _ _ _, Zq, PA.mono _ _ _, Zq, Zq, Zt⟩ ⟨?_, ?_, ?_, ?_, ?_, ?_, ?_, ?_, ?_, ?_, ?_, ?_, ?_, ?_, ?_, ?_, ?_, ?_, ?_, ?_, ?_, ?_, ?_, ?_, ?_, ?_, Zt⟩ ?_)
     ·
      intro w3 D hS1 hd1
      have hl3 := Le.no M hS1
      exact dg_sub (E' := [(1, (.pointer (some p1)))]) ⟨Z, Zt⟩ (dg_plain Z (ow_fieldAddr Z Z Tryd.underlying128 Z (Tryd.sizeOf3 _) ⟨BX.refl _ _, ⟨_, Z, (ARep.mono hl3 (hp1.fld fld_Test_Field))⟩⟩))
     ·
      intro w4 D hS2 hd2
      have d1 : PA RInt M a_t.Field (D 0) w4 := dpA hd2 0 Z
      obtain ⟨p2, e1, ha1⟩ := d1
      refine dg_sub (E' := [(3, (.pointer (some p2)))]) ⟨congrArg some e1, Zt⟩ (dg_plain Z (ow_load (R := RInt) Z Z ha1 (Tryd.sizeOf3 _) (Tryd.isAgg3 _) fun v9 hv9 => ?_))
      obtain rfl := vint_eq hv9
      exact Zb
     ·
      intro w5 D hS3 hd3
      refine dg_sub (E' := [(4, (Zv a_t.Field))]) ⟨dpE hd3 1 Z Z, Zt⟩ (dg_plain Z (ow_geq Z Z Z fun bb5 hbb5 => ?_))
      obtain rfl := hbb5.trans hc1
      exact Zb
     · exact fun w6 D hS4 hd4 => dg_sub (E' := [(5, (.bool true))]) ⟨dpE hd4 2 Z Z, Zt⟩ (dg_plain Z (ow_move Z Z Zb))
     ·
      intro w7 D hS5 hd5
      have hl7 := Le.no M hS5
      exact dg_sub (E' := [(6, (.bool true)), (1, (.pointer (some p1)))]) ⟨dpE hd5 3 Z Z, Z, Zt⟩ (dg_on Z Z Z Z (ow_fieldAddr Z Z Tryd.underlying128 Z (Tryd.sizeOf3 _) ⟨BX.refl _ _, ⟨_, Z, (ARep.mono hl7 (hp1.fld fld_Test_Field))⟩⟩))
     ·
      intro w8 D hS6 hd6
      have d5 : PA RInt M a_t.Field (D 4) w8 := dpA hd6 4 Z
      obtain ⟨p3, e2, ha2⟩ := d5
      refine dg_sub (E' := [(7, (.pointer (some p3))), (6, (.bool true))]) ⟨congrArg some e2, dpE hd6 3 Z Z, Zt⟩ (dg_on Z Z Z Z (ow_load (R := RInt) Z Z ha2 (Tryd.sizeOf3 _) (Tryd.isAgg3 _) fun v10 hv10 => ?_))
      obtain rfl := vint_eq hv10
      exact Zb
     ·
      intro w9 D hS7 hd7
      refine dg_sub (E' := [(8, (Zv a_t.Field)), (6, (.bool true))]) ⟨dpE hd7 5 Z Z, dpE hd7 3 Z Z, Zt⟩ (dg_on Z Z Z Z (ow_lss Z Z Z fun bb6 hbb6 => ?_))
      obtain rfl := hbb6.trans hc2
      exact Zb
     · exact fun w10 D hS8 hd8 => dg_sub (E' := [(6, (.bool true)), (9, (.bool true))]) ⟨dpE hd8 3 Z Z, dpE hd8 6 Z Z, Zt⟩ (dg_plain Z (ow_pickT Z Z Z Zb))
     · exact fun w11 D hS9 hd9 => dg_sub (E' := [(10, (.bool true))]) ⟨dpE hd9 7 Z Z, Zt⟩ (dg_plain Z (ow_move Z Z Zb))
     ·
      intro w12 D hS10 hd10
      have hl12 := Le.no M hS10
      exact dg_sub (E' := [(11, (.bool true)), (1, (.pointer (some p1)))]) ⟨dpE hd10 8 Z Z, Z, Zt⟩ (dg_on Z Z Z Z (ow_fieldAddr Z Z Tryd.underlying128 Z (Tryd.sizeOf3 _) ⟨BX.refl _ _, ⟨_, Z, (ARep.mono hl12 (hp1.fld fld_Test_Lo))⟩⟩))
     ·
      intro w13 D hS11 hd11
      have d14 : PA RInt M a_t.Lo (D 9) w13 := dpA hd11 9 Z
      obtain ⟨p4, e3, ha3⟩ := d14
      refine dg_sub (E' := [(12, (.pointer (some p4))), (11, (.bool true))]) ⟨congrArg some e3, dpE hd11 8 Z Z, Zt⟩ (dg_on Z Z Z Z (ow_load (R := RInt) Z Z ha3 (Tryd.sizeOf3 _) (Tryd.isAgg3 _) fun v11 hv11 => ?_))
      obtain rfl := vint_eq hv11
      exact Zb
     ·
      intro w14 D hS12 hd12
      refine dg_sub (E' := [(13, (Zv a_t.Lo)), (11, (.bool true))]) ⟨dpE hd12 10 Z Z, dpE hd12 8 Z Z, Zt⟩ (dg_on Z Z Z Z (ow_geq Z Z Z fun bb7 hbb7 => ?_))
      obtain rfl := hbb7.trans hc3
      exact Zb
     · exact fun w15 D hS13 hd13 => dg_sub (E' := [(11, (.bool true)), (14, (.bool true))]) ⟨dpE hd13 8 Z Z, dpE hd13 11 Z Z, Zt⟩ (dg_plain Z (ow_pickT Z Z Z Zb))
     · exact fun w16 D hS14 hd14 => dg_sub (E' := [(15, (.bool true))]) ⟨dpE hd14 12 Z Z, Zt⟩ (dg_plain Z (ow_move Z Z Zb))
     ·
      intro w17 D hS15 hd15
      have hl17 := Le.no M hS15
      exact dg_sub (E' := [(16, (.bool true)), (1, (.pointer (some p1)))]) ⟨dpE hd15 13 Z Z, Z, Zt⟩ (dg_on Z Z Z Z (ow_fieldAddr Z Z Tryd.underlying128 Z (Tryd.sizeOf3 _) ⟨BX.refl _ _, ⟨_, Z, (ARep.mono hl17 (hp1.fld fld_Test_Lo))⟩⟩))
     ·
      intro w18 D hS16 hd16
      have d23 : PA RInt M a_t.Lo (D 14) w18 := dpA hd16 14 Z
      obtain ⟨p5, e4, ha4⟩ := d23
      refine dg_sub (E' := [(17, (.pointer (some p5))), (16, (.bool true))]) ⟨congrArg some e4, dpE hd16 13 Z Z, Zt⟩ (dg_on Z Z Z Z (ow_load (R := RInt) Z Z ha4 (Tryd.sizeOf3 _) (Tryd.isAgg3 _) fun v12 hv12 => ?_))
      obtain rfl := vint_eq hv12
      exact Zb
     ·
      intro w19 D hS17 hd17
      have hl19 := Le.no M hS17
      exact dg_sub (E' := [(16, (.bool true)), (1, (.pointer (some p1)))]) ⟨dpE hd17 13 Z Z, Z, Zt⟩ (dg_on Z Z Z Z (ow_fieldAddr Z Z Tryd.underlying128 Z (Tryd.sizeOf3 _) ⟨BX.refl _ _, ⟨_, Z, (ARep.mono hl19 (hp1.fld fld_Test_Hi))⟩⟩))
     ·
      intro w20 D hS18 hd18
      have d26 : PA RInt M a_t.Hi (D 16) w20 := dpA hd18 16 Z
      obtain ⟨p6, e5, ha5⟩ := d26
      refine dg_sub (E' := [(19, (.pointer (some p6))), (16, (.bool true))]) ⟨congrArg some e5, dpE hd18 13 Z Z, Zt⟩ (dg_on Z Z Z Z (ow_load (R := RInt) Z Z ha5 (Tryd.sizeOf3 _) (Tryd.isAgg3 _) fun v13 hv13 => ?_))
      obtain rfl := vint_eq hv13
      exact Zb
     ·
      intro w21 D hS19 hd19
      refine dg_sub (E' := [(18, (Zv a_t.Lo)), (20, (Zv a_t.Hi)), (16, (.bool true))]) ⟨dpE hd19 15 Z Z, dpE hd19 17 Z Z, dpE hd19 13 Z Z, Zt⟩ (dg_on Z Z Z Z (ow_leq Z Z Z fun bb8 hbb8 => ?_))
      obtain rfl := hbb8.trans hc4
      exact Zb
     · exact fun w22 D hS20 hd20 => dg_sub (E' := [(16, (.bool true)), (21, (.bool true))]) ⟨dpE hd20 13 Z Z, dpE hd20 18 Z Z, Zt⟩ (dg_plain Z (ow_pickT Z Z Z Zb))
     · exact fun w23 D hS21 hd21 => dg_sub (E' := [(22, (.bool true))]) ⟨dpE hd21 19 Z Z, Zt⟩ (dg_plain Z (ow_move Z Z Zb))
     ·
      intro w24 D hS22 hd22
      have hl24 := Le.no M hS22
      exact dg_sub (E' := [(23, (.bool true)), (1, (.pointer (some p1)))]) ⟨dpE hd22 20 Z Z, Z, Zt⟩ (dg_on Z Z Z Z (ow_fieldAddr Z Z Tryd.underlying128 Z (Tryd.sizeOf3 _) ⟨BX.refl _ _, ⟨_, Z, (ARep.mono hl24 (hp1.fld fld_Test_Hi))⟩⟩))
     ·
      intro w25 D hS23 hd23
      have d36 : PA RInt M a_t.Hi (D 21) w25 := dpA hd23 21 Z
      obtain ⟨p7, e6, ha6⟩ := d36
      refine dg_sub (E' := [(24, (.pointer (some p7))), (23, (.bool true))]) ⟨congrArg some e6, dpE hd23 20 Z Z, Zt⟩ (dg_on Z Z Z Z (ow_load (R := RInt) Z Z ha6 (Tryd.sizeOf3 _) (Tryd.isAgg3 _) fun v14 hv14 => ?_))
      obtain rfl := vint_eq hv14
      exact Zb
     ·
      intro w26 D hS24 hd24
      have hl26 := Le.no M hS24
      exact dg_sub (E' := [(23, (.bool true)), (1, (.pointer (some p1)))]) ⟨dpE hd24 20 Z Z, Z, Zt⟩ (dg_on Z Z Z Z (ow_fieldAddr Z Z Tryd.underlying128 Z (Tryd.sizeOf3 _) ⟨BX.refl _ _, ⟨_, Z, (ARep.mono hl26 (hp1.fld fld_Test_Field))⟩⟩))
     ·
      intro w27 D hS25 hd25
      have d39 : PA RInt M a_t.Field (D 23) w27 := dpA hd25 23 Z
      obtain ⟨p8, e7, ha7⟩ := d39
      refine dg_sub (E' := [(26, (.pointer (some p8))), (23, (.bool true))]) ⟨congrArg some e7, dpE hd25 20 Z Z, Zt⟩ (dg_on Z Z Z Z (ow_load (R := RInt) Z Z ha7 (Tryd.sizeOf3 _) (Tryd.isAgg3 _) fun v15 hv15 => ?_))
      obtain rfl := vint_eq hv15
      exact Zb
     ·
      intro w28 D hS26 hd26
      have hl28 := Le.no M hS26
      have hC28 := hC1.no hS26
      refine dg_sub (E' := [(27, (Zv a_t.Field)), (23, (.bool true))]) ⟨dpE hd26 24 Z Z, dpE hd26 20 Z Z, Zt⟩ (dg_on Z Z Z Z (ow_call Z Z Tryd.call142 (w_impl_FieldTop (hG.mono (hl1.trans hl28)) hC28.old hx1) fun v16 w29 hv16 => ?_))
      obtain ⟨hv16, hb3⟩ := hv16
      obtain rfl := vint_eq hv16
      exact ⟨hb3, Z⟩
     ·
      intro w30 D hS27 hd27
      have hC30 := hC1.no hS27
      refine lw_sub (E' := [(23, (.bool true)), (25, (Zv a_t.Hi)), (28, (Zv x1)), (1, (.pointer (some p1))), (2, (.bool false))]) ⟨dpE hd27 20 Z Z, dpE hd27 22 Z Z, dpE hd27 25 Z Z, Z, Z, Zt⟩ (lw_on Z Z Z Z Z Z (ow_leq Z Z Z fun bb9 hbb9 => lw_op Z Z Z (ow_pickT Z Z Z (lw_op Z Z Z (ow_assign Z Z (lw_nil (ew_then (cw_ret ?_))))))))
      obtain rfl := sj h
      exact ew_ret (res1 Z (.tmp Z)) ⟨_, Z, ((vbool_of hbb9)), hC30.bx⟩
    ·
     refine cw_sub (E' := [(1, (.pointer (some p1))), (2, (.bool false))]) ⟨Z, Z, Zt⟩ (cw_drawQ 26 [PA RInt M a_t.Field, PEq (Zv a_t.Field), PEq (.bool true), PEq (.bool true), PA RInt M a_t.Field, PEq (Zv a_t.Field), PEq (.bool true), PEq (.bool true), PEq (.bool true), PA RInt M a_t.Lo, PEq (Zv a_t.Lo), PEq (.bool true), PEq (.bool true), PEq (.bool true), PA RInt M a_t.Lo, PEq (Zv a_t.Lo), PA RInt M a_t.Hi, PEq (Zv a_t.Hi), PEq (.bool false), PEq (.bool false), PEq (.bool false), PEq undef, PEq undef, PEq undef, PEq undef, PEq undef] (by kernel_rfl) Z (by kernel_rfl) ⟨PA.mono _ _ _, Zq, Zq, Zq, PA.mono _ _ _, Zq, Zq, Zq, Zq, PA.mono _ _ _, Zq, Zq, Zq, Zq, PA.mono _ _ _, Zq, PA.mono _ _ _, Zq, Zq, Zq, Zq, Zq, Zq, Zq, Zq, Zq, Zt⟩ ⟨?_, ?_, ?_, ?_, ?_, ?_, ?_, ?_, ?_, ?_, ?_, ?_, ?_, ?_, ?_, ?_, ?_, ?_, ?_, ?_, ?_, ?_, ?_, ?_, ?_, ?_, Zt⟩ ?_)
     ·
      intro w31 D hS28 hd28
      have hl31 := Le.no M hS28
      exact dg_sub (E' := [(1, (.pointer (some p1)))]) ⟨Z, Zt⟩ (dg_plain Z (ow_fieldAddr Z Z Tryd.underlying128 Z (Tryd.sizeOf3 _) ⟨BX.refl _ _, ⟨_, Z, (ARep.mono hl31 (hp1.fld fld_Test_Field))⟩⟩))
     ·
      intro w32 D hS29 hd29
      have d70 : PA RInt M a_t.Field (D 0) w32 := dpA hd29 0 Z
      obtain ⟨p9, e8, ha8⟩ := d70
      refine dg_sub (E' := [(3, (.pointer (some p9)))]) ⟨congrArg some e8, Zt⟩ (dg_plain Z (ow_load (R := RInt) Z Z ha8 (Tryd.sizeOf3 _) (Tryd.isAgg3 _) fun v17 hv17 => ?_))
      obtain rfl := vint_eq hv17
      exact Zb
     ·
      intro w33 D hS30 hd30
      refine dg_sub (E' := [(4, (Zv a_t.Field))]) ⟨dpE hd30 1 Z Z, Zt⟩ (dg_plain Z (ow_geq Z Z Z fun bb10 hbb10 => ?_))
      obtain rfl := hbb10.trans hc1
      exact Zb
     · exact fun w34 D hS31 hd31 => dg_sub (E' := [(5, (.bool true))]) ⟨dpE hd31 2 Z Z, Zt⟩ (dg_plain Z (ow_move Z Z Zb))
     ·
      intro w35 D hS32 hd32
      have hl35 := Le.no M hS32
      exact dg_sub (E' := [(6, (.bool true)), (1, (.pointer (some p1)))]) ⟨dpE hd32 3 Z Z, Z, Zt⟩ (dg_on Z Z Z Z (ow_fieldAddr Z Z Tryd.underlying128 Z (Tryd.sizeOf3 _) ⟨BX.refl _ _, ⟨_, Z, (ARep.mono hl35 (hp1.fld fld_Test_Field))⟩⟩))
     ·
      intro w36 D hS33 hd33
      have d74 : PA RInt M a_t.Field (D 4) w36 := dpA hd33 4 Z
      obtain ⟨p10, e9, ha9⟩ := d74
      refine dg_sub (E' := [(7, (.pointer (some p10))), (6, (.bool true))]) ⟨congrArg some e9, dpE hd33 3 Z Z, Zt⟩ (dg_on Z Z Z Z (ow_load (R := RInt) Z Z ha9 (Tryd.sizeOf3 _) (Tryd.isAgg3 _) fun v18 hv18 => ?_))
      obtain rfl := vint_eq hv18
      exact Zb
     ·
      intro w37 D hS34 hd34
      refine dg_sub (E' := [(8, (Zv a_t.Field)), (6, (.bool true))]) ⟨dpE hd34 5 Z Z, dpE hd34 3 Z Z, Zt⟩ (dg_on Z Z Z Z (ow_lss Z Z Z fun bb11 hbb11 => ?_))
      obtain rfl := hbb11.trans hc2
      exact Zb
     · exact fun w38 D hS35 hd35 => dg_sub (E' := [(6, (.bool true)), (9, (.bool true))]) ⟨dpE hd35 3 Z Z, dpE hd35 6 Z Z, Zt⟩ (dg_plain Z (ow_pickT Z Z Z Zb))
     · exact fun w39 D hS36 hd36 => dg_sub (E' := [(10, (.bool true))]) ⟨dpE hd36 7 Z Z, Zt⟩ (dg_plain Z (ow_move Z Z Zb))
     ·
      intro w40 D hS37 hd37
      have hl40 := Le.no M hS37
      exact dg_sub (E' := [(11, (.bool true)), (1, (.pointer (some p1)))]) ⟨dpE hd37 8 Z Z, Z, Zt⟩ (dg_on Z Z Z Z (ow_fieldAddr Z Z Tryd.underlying128 Z (Tryd.sizeOf3 _) ⟨BX.refl _ _, ⟨_, Z, (ARep.mono hl40 (hp1.fld fld_Test_Lo))⟩⟩))
     ·
      intro w41 D hS38 hd38
      have d83 : PA RInt M a_t.Lo (D 9) w41 := dpA hd38 9 Z
      obtain ⟨p11, e10, ha10⟩ := d83
      refine dg_sub (E' := [(12, (.pointer (some p11))), (11, (.bool true))]) ⟨congrArg some e10, dpE hd38 8 Z Z, Zt⟩ (dg_on Z Z Z Z (ow_load (R := RInt) Z Z ha10 (Tryd.sizeOf3 _) (Tryd.isAgg3 _) fun v19 hv19 => ?_))
      obtain rfl := vint_eq hv19
      exact Zb
     ·
      intro w42 D hS39 hd39
      refine dg_sub (E' := [(13, (Zv a_t.Lo)), (11, (.bool true))]) ⟨dpE hd39 10 Z Z, dpE hd39 8 Z Z, Zt⟩ (dg_on Z Z Z Z (ow_geq Z Z Z fun bb12 hbb12 => ?_))
      obtain rfl := hbb12.trans hc3
      exact Zb
     · exact fun w43 D hS40 hd40 => dg_sub (E' := [(11, (.bool true)), (14, (.bool true))]) ⟨dpE hd40 8 Z Z, dpE hd40 11 Z Z, Zt⟩ (dg_plain Z (ow_pickT Z Z Z Zb))
     · exact fun w44 D hS41 hd41 => dg_sub (E' := [(15, (.bool true))]) ⟨dpE hd41 12 Z Z, Zt⟩ (dg_plain Z (ow_move Z Z Zb))
     ·
      intro w45 D hS42 hd42
      have hl45 := Le.no M hS42
      exact dg_sub (E' := [(16, (.bool true)), (1, (.pointer (some p1)))]) ⟨dpE hd42 13 Z Z, Z, Zt⟩ (dg_on Z Z Z Z (ow_fieldAddr Z Z Tryd.underlying128 Z (Tryd.sizeOf3 _) ⟨BX.refl _ _, ⟨_, Z, (ARep.mono hl45 (hp1.fld fld_Test_Lo))⟩⟩))
     ·
      intro w46 D hS43 hd43
      have d92 : PA RInt M a_t.Lo (D 14) w46 := dpA hd43 14 Z
      obtain ⟨p12, e11, ha11⟩ := d92
      refine dg_sub (E' := [(17, (.pointer (some p12))), (16, (.bool true))]) ⟨congrArg some e11, dpE hd43 13 Z Z, Zt⟩ (dg_on Z Z Z Z (ow_load (R := RInt) Z Z ha11 (Tryd.sizeOf3 _) (Tryd.isAgg3 _) fun v20 hv20 => ?_))
      obtain rfl := vint_eq hv20
      exact Zb
     ·
      intro w47 D hS44 hd44
      have hl47 := Le.no M hS44
      exact dg_sub (E' := [(16, (.bool true)), (1, (.pointer (some p1)))]) ⟨dpE hd44 13 Z Z, Z, Zt⟩ (dg_on Z Z Z Z (ow_fieldAddr Z Z Tryd.underlying128 Z (Tryd.sizeOf3 _) ⟨BX.refl _ _, ⟨_, Z, (ARep.mono hl47 (hp1.fld fld_Test_Hi))⟩⟩))
     ·
      intro w48 D hS45 hd45
      have d95 : PA RInt M a_t.Hi (D 16) w48 := dpA hd45 16 Z
      obtain ⟨p13, e12, ha12⟩ := d95
      refine dg_sub (E' := [(19, (.pointer (some p13))), (16, (.bool true))]) ⟨congrArg some e12, dpE hd45 13 Z Z, Zt⟩ (dg_on Z Z Z Z (ow_load (R := RInt) Z Z ha12 (Tryd.sizeOf3 _) (Tryd.isAgg3 _) fun v21 hv21 => ?_))
      obtain rfl := vint_eq hv21
      exact Zb
     ·
      intro w49 D hS46 hd46
      refine dg_sub (E' := [(18, (Zv a_t.Lo)), (20, (Zv a_t.Hi)), (16, (.bool true))]) ⟨dpE hd46 15 Z Z, dpE hd46 17 Z Z, dpE hd46 13 Z Z, Zt⟩ (dg_on Z Z Z Z (ow_leq Z Z Z fun bb13 hbb13 => ?_))
      obtain rfl := hbb13.trans hc4
      exact Zb
     · exact fun w50 D hS47 hd47 => dg_sub (E' := [(16, (.bool true)), (21, (.bool false))]) ⟨dpE hd47 13 Z Z, dpE hd47 18 Z Z, Zt⟩ (dg_plain Z (ow_pickT Z Z Z Zb))
     · exact fun w51 D hS48 hd48 => dg_sub (E' := [(22, (.bool false))]) ⟨dpE hd48 19 Z Z, Zt⟩ (dg_plain Z (ow_move Z Z Zb))
     · exact fun w52 D hS49 hd49 => dg_sub (E' := [(23, (.bool false)), (1, (.pointer (some p1)))]) ⟨dpE hd49 20 Z Z, Z, Zt⟩ (dg_off Z Z Z Z Zb)
     · exact fun w53 D hS50 hd50 => dg_sub (E' := [(24, undef), (23, (.bool false))]) ⟨dpE hd50 21 Z Z, dpE hd50 20 Z Z, Zt⟩ (dg_off Z Z Z Z Zb)
     · exact fun w54 D hS51 hd51 => dg_sub (E' := [(23, (.bool false)), (1, (.pointer (some p1)))]) ⟨dpE hd51 20 Z Z, Z, Zt⟩ (dg_off Z Z Z Z Zb)
     · exact fun w55 D hS52 hd52 => dg_sub (E' := [(26, undef), (23, (.bool false))]) ⟨dpE hd52 23 Z Z, dpE hd52 20 Z Z, Zt⟩ (dg_off Z Z Z Z Zb)
     · exact fun w56 D hS53 hd53 => dg_sub (E' := [(27, undef), (23, (.bool false))]) ⟨dpE hd53 24 Z Z, dpE hd53 20 Z Z, Zt⟩ (dg_off Z Z Z Z Zb)
     ·
      intro w57 D hS54 hd54
      have hC57 := hC1.no hS54
      refine lw_sub (E' := [(23, (.bool false)), (25, undef), (28, undef), (1, (.pointer (some p1))), (2, (.bool false))]) ⟨dpE hd54 20 Z Z, dpE hd54 22 Z Z, dpE hd54 25 Z Z, Z, Z, Zt⟩ (lw_off Z Z Z Z Z Z (lw_op Z Z Z (ow_pickF Z Z Z (lw_op Z Z Z (ow_assign Z Z (lw_nil (ew_then (cw_ret ?_))))))))
      obtain rfl := sj h
      exact ew_ret (res1 Z (.tmp Z)) ⟨_, Z, ((vbool _)), hC57.bx⟩
   ·
    refine cw_sub (E' := [(1, (.pointer (some p1))), (2, (.bool false))]) ⟨Z, Z, Zt⟩ (cw_drawQ 26 [PA RInt M a_t.Field, PEq (Zv a_t.Field), PEq (.bool true), PEq (.bool true), PA RInt M a_t.Field, PEq (Zv a_t.Field), PEq (.bool true), PEq (.bool true), PEq (.bool true), PA RInt M a_t.Lo, PEq (Zv a_t.Lo), PEq (.bool false), PEq (.bool false), PEq (.bool false), PEq undef, PEq undef, PEq undef, PEq undef, PEq undef, PEq (.bool false), PEq (.bool false), PEq undef, PEq undef, PEq undef, PEq undef, PEq undef] (by kernel_rfl) Z (by kernel_rfl) ⟨PA.mono _ _ _, Zq, Zq, Zq, PA.mono _ _ _, Zq, Zq, Zq, Zq, PA.mono _ _ _, Zq, Zq, Zq, Zq, Zq, Zq, Zq, Zq, Zq, Zq, Zq, Zq, Zq, Zq, Zq, Zq, Zt⟩ ⟨?_, ?_, ?_, ?_, ?_, ?_, ?_, ?_, ?_, ?_, ?_, ?_, ?_, ?_, ?_, ?_, ?_, ?_, ?_, ?_, ?_, ?_, ?_, ?_, ?_, ?_, Zt⟩ ?_)
    ·
     intro w58 D hS55 hd55
     have hl58 := Le.no M hS55
     exact dg_sub (E' := [(1, (.pointer (some p1)))]) ⟨Z, Zt⟩ (dg_plain Z (ow_fieldAddr Z Z Tryd.underlying128 Z (Tryd.sizeOf3 _) ⟨BX.refl _ _, ⟨_, Z, (ARep.mono hl58 (hp1.fld fld_Test_Field))⟩⟩))
    ·
     intro w59 D hS56 hd56
     have d139 : PA RInt M a_t.Field (D 0) w59 := dpA hd56 0 Z
     obtain ⟨p14, e13, ha13⟩ := d139
     refine dg_sub (E' := [(3, (.pointer (some p14)))]) ⟨congrArg some e13, Zt⟩ (dg_plain Z (ow_load (R := RInt) Z Z ha13 (Tryd.sizeOf3 _) (Tryd.isAgg3 _) fun v22 hv22 => ?_))
     obtain rfl := vint_eq hv22
     exact Zb
    ·
     intro w60 D hS57 hd57
     refine dg_sub (E' := [(4, (Zv a_t.Field))]) ⟨dpE hd57 1 Z Z, Zt⟩ (dg_plain Z (ow_geq Z Z Z fun bb14 hbb14 => ?_))
     obtain rfl := hbb14.trans hc1
     exact Zb
    · exact fun w61 D hS58 hd58 => dg_sub (E' := [(5, (.bool true))]) ⟨dpE hd58 2 Z Z, Zt⟩ (dg_plain Z (ow_move Z Z Zb))
    ·
     intro w62 D hS59 hd59
     have hl62 := Le.no M hS59
     exact dg_sub (E' := [(6, (.bool true)), (1, (.pointer (some p1)))]) ⟨dpE hd59 3 Z Z, Z, Zt⟩ (dg_on Z Z Z Z (ow_fieldAddr Z Z Tryd.underlying128 Z (Tryd.sizeOf3 _) ⟨BX.refl _ _, ⟨_, Z, (ARep.mono hl62 (hp1.fld fld_Test_Field))⟩⟩))
    ·
     intro w63 D hS60 hd60
     have d143 : PA RInt M a_t.Field (D 4) w63 := dpA hd60 4 Z
     obtain ⟨p15, e14, ha14⟩ := d143
     refine dg_sub (E' := [(7, (.pointer (some p15))), (6, (.bool true))]) ⟨congrArg some e14, dpE hd60 3 Z Z, Zt⟩ (dg_on Z Z Z Z (ow_load (R := RInt) Z Z ha14 (Tryd.sizeOf3 _) (Tryd.isAgg3 _) fun v23 hv23 => ?_))
     obtain rfl := vint_eq hv23
     exact Zb
    ·
     intro w64 D hS61 hd61
     refine dg_sub (E' := [(8, (Zv a_t.Field)), (6, (.bool true))]) ⟨dpE hd61 5 Z Z, dpE hd61 3 Z Z, Zt⟩ (dg_on Z Z Z Z (ow_lss Z Z Z fun bb15 hbb15 => ?_))
     obtain rfl := hbb15.trans hc2
     exact Zb
    · exact fun w65 D hS62 hd62 => dg_sub (E' := [(6, (.bool true)), (9, (.bool true))]) ⟨dpE hd62 3 Z Z, dpE hd62 6 Z Z, Zt⟩ (dg_plain Z (ow_pickT Z Z Z Zb))
    · exact fun w66 D hS63 hd63 => dg_sub (E' := [(10, (.bool true))]) ⟨dpE hd63 7 Z Z, Zt⟩ (dg_plain Z (ow_move Z Z Zb))
    ·
     intro w67 D hS64 hd64
     have hl67 := Le.no M hS64
     exact dg_sub (E' := [(11, (.bool true)), (1, (.pointer (some p1)))]) ⟨dpE hd64 8 Z Z, Z, Zt⟩ (dg_on Z Z Z Z (ow_fieldAddr Z Z Tryd.underlying128 Z (Tryd.sizeOf3 _) ⟨BX.refl _ _, ⟨_, Z, (ARep.mono hl67 (hp1.fld fld_Test_Lo))⟩⟩))
    ·
     intro w68 D hS65 hd65
     have d152 : PA RInt M a_t.Lo (D 9) w68 := dpA hd65 9 Z
     obtain ⟨p16, e15, ha15⟩ := d152
     refine dg_sub (E' := [(12, (.pointer (some p16))), (11, (.bool true))]) ⟨congrArg some e15, dpE hd65 8 Z Z, Zt⟩ (dg_on Z Z Z Z (ow_load (R := RInt) Z Z ha15 (Tryd.sizeOf3 _) (Tryd.isAgg3 _) fun v24 hv24 => ?_))
     obtain rfl := vint_eq hv24
     exact Zb
    ·
     intro w69 D hS66 hd66
     refine dg_sub (E' := [(13, (Zv a_t.Lo)), (11, (.bool true))]) ⟨dpE hd66 10 Z Z, dpE hd66 8 Z Z, Zt⟩ (dg_on Z Z Z Z (ow_geq Z Z Z fun bb16 hbb16 => ?_))
     obtain rfl := hbb16.trans hc3
     exact Zb
    · exact fun w70 D hS67 hd67 => dg_sub (E' := [(11, (.bool true)), (14, (.bool false))]) ⟨dpE hd67 8 Z Z, dpE hd67 11 Z Z, Zt⟩ (dg_plain Z (ow_pickT Z Z Z Zb))
    · exact fun w71 D hS68 hd68 => dg_sub (E' := [(15, (.bool false))]) ⟨dpE hd68 12 Z Z, Zt⟩ (dg_plain Z (ow_move Z Z Zb))
    · exact fun w72 D hS69 hd69 => dg_sub (E' := [(16, (.bool false)), (1, (.pointer (some p1)))]) ⟨dpE hd69 13 Z Z, Z, Zt⟩ (dg_off Z Z Z Z Zb)
    · exact fun w73 D hS70 hd70 => dg_sub (E' := [(17, undef), (16, (.bool false))]) ⟨dpE hd70 14 Z Z, dpE hd70 13 Z Z, Zt⟩ (dg_off Z Z Z Z Zb)
    · exact fun w74 D hS71 hd71 => dg_sub (E' := [(16, (.bool false)), (1, (.pointer (some p1)))]) ⟨dpE hd71 13 Z Z, Z, Zt⟩ (dg_off Z Z Z Z Zb)
    · exact fun w75 D hS72 hd72 => dg_sub (E' := [(19, undef), (16, (.bool false))]) ⟨dpE hd72 16 Z Z, dpE hd72 13 Z Z, Zt⟩ (dg_off Z Z Z Z Zb)
    · exact fun w76 D hS73 hd73 => dg_sub (E' := [(18, undef), (20, undef), (16, (.bool false))]) ⟨dpE hd73 15 Z Z, dpE hd73 17 Z Z, dpE hd73 13 Z Z, Zt⟩ (dg_off Z Z Z Z Zb)
    · exact fun w77 D hS74 hd74 => dg_sub (E' := [(16, (.bool false)), (21, undef)]) ⟨dpE hd74 13 Z Z, dpE hd74 18 Z Z, Zt⟩ (dg_plain Z (ow_pickF Z Z Z Zb))
    · exact fun w78 D hS75 hd75 => dg_sub (E' := [(22, (.bool false))]) ⟨dpE hd75 19 Z Z, Zt⟩ (dg_plain Z (ow_move Z Z Zb))
    · exact fun w79 D hS76 hd76 => dg_sub (E' := [(23, (.bool false)), (1, (.pointer (some p1)))]) ⟨dpE hd76 20 Z Z, Z, Zt⟩ (dg_off Z Z Z Z Zb)
    · exact fun w80 D hS77 hd77 => dg_sub (E' := [(24, undef), (23, (.bool false))]) ⟨dpE hd77 21 Z Z, dpE hd77 20 Z Z, Zt⟩ (dg_off Z Z Z Z Zb)
    · exact fun w81 D hS78 hd78 => dg_sub (E' := [(23, (.bool false)), (1, (.pointer (some p1)))]) ⟨dpE hd78 20 Z Z, Z, Zt⟩ (dg_off Z Z Z Z Zb)
    · exact fun w82 D hS79 hd79 => dg_sub (E' := [(26, undef), (23, (.bool false))]) ⟨dpE hd79 23 Z Z, dpE hd79 20 Z Z, Zt⟩ (dg_off Z Z Z Z Zb)
    · exact fun w83 D hS80 hd80 => dg_sub (E' := [(27, undef), (23, (.bool false))]) ⟨dpE hd80 24 Z Z, dpE hd80 20 Z Z, Zt⟩ (dg_off Z Z Z Z Zb)
    ·
     intro w84 D hS81 hd81
     have hC84 := hC1.no hS81
     refine lw_sub (E' := [(23, (.bool false)), (25, undef), (28, undef), (1, (.pointer (some p1))), (2, (.bool false))]) ⟨dpE hd81 20 Z Z, dpE hd81 22 Z Z, dpE hd81 25 Z Z, Z, Z, Zt⟩ (lw_off Z Z Z Z Z Z (lw_op Z Z Z (ow_pickF Z Z Z (lw_op Z Z Z (ow_assign Z Z (lw_nil (ew_then (cw_ret ?_))))))))
     obtain rfl := sj h
     exact ew_ret (res1 Z (.tmp Z)) ⟨_, Z, ((vbool _)), hC84.bx⟩
  ·
   refine cw_sub (E' := [(1, (.pointer (some p1))), (2, (.bool false))]) ⟨Z, Z, Zt⟩ (cw_drawQ 26 [PA RInt M a_t.Field, PEq (Zv a_t.Field), PEq (.bool true), PEq (.bool true), PA RInt M a_t.Field, PEq (Zv a_t.Field), PEq (.bool false), PEq (.bool false), PEq (.bool false), PEq undef, PEq undef, PEq undef, PEq (.bool false), PEq (.bool false), PEq undef, PEq undef, PEq undef, PEq undef, PEq undef, PEq (.bool false), PEq (.bool false), PEq undef, PEq undef, PEq undef, PEq undef, PEq undef] (by kernel_rfl) Z (by kernel_rfl) ⟨PA.mono _ _ _, Zq, Zq, Zq, PA.mono _ _ _, Zq, Zq, Zq, Zq, Zq, Zq, Zq, Zq, Zq, Zq, Zq, Zq, Zq, Zq, Zq, Zq, Zq, Zq, Zq, Zq, Zq, Zt⟩ ⟨?_, ?_, ?_, ?_, ?_, ?_, ?_, ?_, ?_, ?_, ?_, ?_, ?_, ?_, ?_, ?_, ?_, ?_, ?_, ?_, ?_, ?_, ?_, ?_, ?_, ?_, Zt⟩ ?_)
   ·
    intro w85 D hS82 hd82
    have hl85 := Le.no M hS82
    exact dg_sub (E' := [(1, (.pointer (some p1)))]) ⟨Z, Zt⟩ (dg_plain Z (ow_fieldAddr Z Z Tryd.underlying128 Z (Tryd.sizeOf3 _) ⟨BX.refl _ _, ⟨_, Z, (ARep.mono hl85 (hp1.fld fld_Test_Field))⟩⟩))
   ·
    intro w86 D hS83 hd83
    have d208 : PA RInt M a_t.Field (D 0) w86 := dpA hd83 0 Z
    obtain ⟨p17, e16, ha16⟩ := d208
    refine dg_sub (E' := [(3, (.pointer (some p17)))]) ⟨congrArg some e16, Zt⟩ (dg_plain Z (ow_load (R := RInt) Z Z ha16 (Tryd.sizeOf3 _) (Tryd.isAgg3 _) fun v25 hv25 => ?_))
    obtain rfl := vint_eq hv25
    exact Zb
   ·
    intro w87 D hS84 hd84
    refine dg_sub (E' := [(4, (Zv a_t.Field))]) ⟨dpE hd84 1 Z Z, Zt⟩ (dg_plain Z (ow_geq Z Z Z fun bb17 hbb17 => ?_))
    obtain rfl := hbb17.trans hc1
    exact Zb
   · exact fun w88 D hS85 hd85 => dg_sub (E' := [(5, (.bool true))]) ⟨dpE hd85 2 Z Z, Zt⟩ (dg_plain Z (ow_move Z Z Zb))
   ·
    intro w89 D hS86 hd86
    have hl89 := Le.no M hS86
    exact dg_sub (E' := [(6, (.bool true)), (1, (.pointer (some p1)))]) ⟨dpE hd86 3 Z Z, Z, Zt⟩ (dg_on Z Z Z Z (ow_fieldAddr Z Z Tryd.underlying128 Z (Tryd.sizeOf3 _) ⟨BX.refl _ _, ⟨_, Z, (ARep.mono hl89 (hp1.fld fld_Test_Field))⟩⟩))
   ·
    intro w90 D hS87 hd87
    have d212 : PA RInt M a_t.Field (D 4) w90 := dpA hd87 4 Z
    obtain ⟨p18, e17, ha17⟩ := d212
    refine dg_sub (E' := [(7, (.pointer (some p18))), (6, (.bool true))]) ⟨congrArg some e17, dpE hd87 3 Z Z, Zt⟩ (dg_on Z Z Z Z (ow_load (R := RInt) Z Z ha17 (Tryd.sizeOf3 _) (Tryd.isAgg3 _) fun v26 hv26 => ?_))
    obtain rfl := vint_eq hv26
    exact Zb
   ·
    intro w91 D hS88 hd88
    refine dg_sub (E' := [(8, (Zv a_t.Field)), (6, (.bool true))]) ⟨dpE hd88 5 Z Z, dpE hd88 3 Z Z, Zt⟩ (dg_on Z Z Z Z (ow_lss Z Z Z fun bb18 hbb18 => ?_))
    obtain rfl := hbb18.trans hc2
    exact Zb
   · exact fun w92 D hS89 hd89 => dg_sub (E' := [(6, (.bool true)), (9, (.bool false))]) ⟨dpE hd89 3 Z Z, dpE hd89 6 Z Z, Zt⟩ (dg_plain Z (ow_pickT Z Z Z Zb))
   · exact fun w93 D hS90 hd90 => dg_sub (E' := [(10, (.bool false))]) ⟨dpE hd90 7 Z Z, Zt⟩ (dg_plain Z (ow_move Z Z Zb))
   · exact fun w94 D hS91 hd91 => dg_sub (E' := [(11, (.bool false)), (1, (.pointer (some p1)))]) ⟨dpE hd91 8 Z Z, Z, Zt⟩ (dg_off Z Z Z Z Zb)
   · exact fun w95 D hS92 hd92 => dg_sub (E' := [(12, undef), (11, (.bool false))]) ⟨dpE hd92 9 Z Z, dpE hd92 8 Z Z, Zt⟩ (dg_off Z Z Z Z Zb)
   · exact fun w96 D hS93 hd93 => dg_sub (E' := [(13, undef), (11, (.bool false))]) ⟨dpE hd93 10 Z Z, dpE hd93 8 Z Z, Zt⟩ (dg_off Z Z Z Z Zb)
   · exact fun w97 D hS94 hd94 => dg_sub (E' := [(11, (.bool false)), (14, undef)]) ⟨dpE hd94 8 Z Z, dpE hd94 11 Z Z, Zt⟩ (dg_plain Z (ow_pickF Z Z Z Zb))
   · exact fun w98 D hS95 hd95 => dg_sub (E' := [(15, (.bool false))]) ⟨dpE hd95 12 Z Z, Zt⟩ (dg_plain Z (ow_move Z Z Zb))
   · exact fun w99 D hS96 hd96 => dg_sub (E' := [(16, (.bool false)), (1, (.pointer (some p1)))]) ⟨dpE hd96 13 Z Z, Z, Zt⟩ (dg_off Z Z Z Z Zb)
   · exact fun w100 D hS97 hd97 => dg_sub (E' := [(17, undef), (16, (.bool false))]) ⟨dpE hd97 14 Z Z, dpE hd97 13 Z Z, Zt⟩ (dg_off Z Z Z Z Zb)
   · exact fun w101 D hS98 hd98 => dg_sub (E' := [(16, (.bool false)), (1, (.pointer (some p1)))]) ⟨dpE hd98 13 Z Z, Z, Zt⟩ (dg_off Z Z Z Z Zb)
   · exact fun w102 D hS99 hd99 => dg_sub (E' := [(19, undef), (16, (.bool false))]) ⟨dpE hd99 16 Z Z, dpE hd99 13 Z Z, Zt⟩ (dg_off Z Z Z Z Zb)
   · exact fun w103 D hS100 hd100 => dg_sub (E' := [(18, undef), (20, undef), (16, (.bool false))]) ⟨dpE hd100 15 Z Z, dpE hd100 17 Z Z, dpE hd100 13 Z Z, Zt⟩ (dg_off Z Z Z Z Zb)
   · exact fun w104 D hS101 hd101 => dg_sub (E' := [(16, (.bool false)), (21, undef)]) ⟨dpE hd101 13 Z Z, dpE hd101 18 Z Z, Zt⟩ (dg_plain Z (ow_pickF Z Z Z Zb))
   · exact fun w105 D hS102 hd102 => dg_sub (E' := [(22, (.bool false))]) ⟨dpE hd102 19 Z Z, Zt⟩ (dg_plain Z (ow_move Z Z Zb))
   · exact fun w106 D hS103 hd103 => dg_sub (E' := [(23, (.bool false)), (1, (.pointer (some p1)))]) ⟨dpE hd103 20 Z Z, Z, Zt⟩ (dg_off Z Z Z Z Zb)
   · exact fun w107 D hS104 hd104 => dg_sub (E' := [(24, undef), (23, (.bool false))]) ⟨dpE hd104 21 Z Z, dpE hd104 20 Z Z, Zt⟩ (dg_off Z Z Z Z Zb)
   · exact fun w108 D hS105 hd105 => dg_sub (E' := [(23, (.bool false)), (1, (.pointer (some p1)))]) ⟨dpE hd105 20 Z Z, Z, Zt⟩ (dg_off Z Z Z Z Zb)
   · exact fun w109 D hS106 hd106 => dg_sub (E' := [(26, undef), (23, (.bool false))]) ⟨dpE hd106 23 Z Z, dpE hd106 20 Z Z, Zt⟩ (dg_off Z Z Z Z Zb)
   · exact fun w110 D hS107 hd107 => dg_sub (E' := [(27, undef), (23, (.bool false))]) ⟨dpE hd107 24 Z Z, dpE hd107 20 Z Z, Zt⟩ (dg_off Z Z Z Z Zb)
   ·
    intro w111 D hS108 hd108
    have hC111 := hC1.no hS108
    refine lw_sub (E' := [(23, (.bool false)), (25, undef), (28, undef), (1, (.pointer (some p1))), (2, (.bool false))]) ⟨dpE hd108 20 Z Z, dpE hd108 22 Z Z, dpE hd108 25 Z Z, Z, Z, Zt⟩ (lw_off Z Z Z Z Z Z (lw_op Z Z Z (ow_pickF Z Z Z (lw_op Z Z Z (ow_assign Z Z (lw_nil (ew_then (cw_ret ?_))))))))
    obtain rfl := sj h
    exact ew_ret (res1 Z (.tmp Z)) ⟨_, Z, ((vbool _)), hC111.bx⟩
 ·
  refine cw_sub (E' := [(1, (.pointer (some p1))), (2, (.bool false))]) ⟨Z, Z, Zt⟩ (cw_drawQ 26 [PA RInt M a_t.Field, PEq (Zv a_t.Field), PEq (.bool false), PEq (.bool false), PEq undef, PEq undef, PEq undef, PEq (.bool false), PEq (.bool false), PEq undef, PEq undef, PEq undef, PEq (.bool false), PEq (.bool false), PEq undef, PEq undef, PEq undef, PEq undef, PEq undef, PEq (.bool false), PEq (.bool false), PEq undef, PEq undef, PEq undef, PEq undef, PEq undef] (by kernel_rfl) Z (by kernel_rfl) ⟨PA.mono _ _ _, Zq, Zq, Zq, Zq, Zq, Zq, Zq, Zq, Zq, Zq, Zq, Zq, Zq, Zq, Zq, Zq, Zq, Zq, Zq, Zq, Zq, Zq, Zq, Zq, Zq, Zt⟩ ⟨?_, ?_, ?_, ?_, ?_, ?_, ?_, ?_, ?_, ?_, ?_, ?_, ?_, ?_, ?_, ?_, ?_, ?_, ?_, ?_, ?_, ?_, ?_, ?_, ?_, ?_, Zt⟩ ?_)
  ·
   intro w112 D hS109 hd109
   have hl112 := Le.no M hS109
   exact dg_sub (E' := [(1, (.pointer (some p1)))]) ⟨Z, Zt⟩ (dg_plain Z (ow_fieldAddr Z Z Tryd.underlying128 Z (Tryd.sizeOf3 _) ⟨BX.refl _ _, ⟨_, Z, (ARep.mono hl112 (hp1.fld fld_Test_Field))⟩⟩))
  ·
   intro w113 D hS110 hd110
   have d277 : PA RInt M a_t.Field (D 0) w113 := dpA hd110 0 Z
   obtain ⟨p19, e18, ha18⟩ := d277
   refine dg_sub (E' := [(3, (.pointer (some p19)))]) ⟨congrArg some e18, Zt⟩ (dg_plain Z (ow_load (R := RInt) Z Z ha18 (Tryd.sizeOf3 _) (Tryd.isAgg3 _) fun v27 hv27 => ?_))
   obtain rfl := vint_eq hv27
   exact Zb
  ·
   intro w114 D hS111 hd111
   refine dg_sub (E' := [(4, (Zv a_t.Field))]) ⟨dpE hd111 1 Z Z, Zt⟩ (dg_plain Z (ow_geq Z Z Z fun bb19 hbb19 => ?_))
   obtain rfl := hbb19.trans hc1
   exact Zb
  · exact fun w115 D hS112 hd112 => dg_sub (E' := [(5, (.bool false))]) ⟨dpE hd112 2 Z Z, Zt⟩ (dg_plain Z (ow_move Z Z Zb))
  · exact fun w116 D hS113 hd113 => dg_sub (E' := [(6, (.bool false)), (1, (.pointer (some p1)))]) ⟨dpE hd113 3 Z Z, Z, Zt⟩ (dg_off Z Z Z Z Zb)
  · exact fun w117 D hS114 hd114 => dg_sub (E' := [(7, undef), (6, (.bool false))]) ⟨dpE hd114 4 Z Z, dpE hd114 3 Z Z, Zt⟩ (dg_off Z Z Z Z Zb)
  · exact fun w118 D hS115 hd115 => dg_sub (E' := [(8, undef), (6, (.bool false))]) ⟨dpE hd115 5 Z Z, dpE hd115 3 Z Z, Zt⟩ (dg_off Z Z Z Z Zb)
  · exact fun w119 D hS116 hd116 => dg_sub (E' := [(6, (.bool false)), (9, undef)]) ⟨dpE hd116 3 Z Z, dpE hd116 6 Z Z, Zt⟩ (dg_plain Z (ow_pickF Z Z Z Zb))
  · exact fun w120 D hS117 hd117 => dg_sub (E' := [(10, (.bool false))]) ⟨dpE hd117 7 Z Z, Zt⟩ (dg_plain Z (ow_move Z Z Zb))
  · exact fun w121 D hS118 hd118 => dg_sub (E' := [(11, (.bool false)), (1, (.pointer (some p1)))]) ⟨dpE hd118 8 Z Z, Z, Zt⟩ (dg_off Z Z Z Z Zb)
  · exact fun w122 D hS119 hd119 => dg_sub (E' := [(12, undef), (11, (.bool false))]) ⟨dpE hd119 9 Z Z, dpE hd119 8 Z Z, Zt⟩ (dg_off Z Z Z Z Zb)
  · exact fun w123 D hS120 hd120 => dg_sub (E' := [(13, undef), (11, (.bool false))]) ⟨dpE hd120 10 Z Z, dpE hd120 8 Z Z, Zt⟩ (dg_off Z Z Z Z Zb)
  · exact fun w124 D hS121 hd121 => dg_sub (E' := [(11, (.bool false)), (14, undef)]) ⟨dpE hd121 8 Z Z, dpE hd121 11 Z Z, Zt⟩ (dg_plain Z (ow_pickF Z Z Z Zb))
  · exact fun w125 D hS122 hd122 => dg_sub (E' := [(15, (.bool false))]) ⟨dpE hd122 12 Z Z, Zt⟩ (dg_plain Z (ow_move Z Z Zb))
  · exact fun w126 D hS123 hd123 => dg_sub (E' := [(16, (.bool false)), (1, (.pointer (some p1)))]) ⟨dpE hd123 13 Z Z, Z, Zt⟩ (dg_off Z Z Z Z Zb)
  · exact fun w127 D hS124 hd124 => dg_sub (E' := [(17, undef), (16, (.bool false))]) ⟨dpE hd124 14 Z Z, dpE hd124 13 Z Z, Zt⟩ (dg_off Z Z Z Z Zb)
  · exact fun w128 D hS125 hd125 => dg_sub (E' := [(16, (.bool false)), (1, (.pointer (some p1)))]) ⟨dpE hd125 13 Z Z, Z, Zt⟩ (dg_off Z Z Z Z Zb)
  · exact fun w129 D hS126 hd126 => dg_sub (E' := [(19, undef), (16, (.bool false))]) ⟨dpE hd126 16 Z Z, dpE hd126 13 Z Z, Zt⟩ (dg_off Z Z Z Z Zb)
  · exact fun w130 D hS127 hd127 => dg_sub (E' := [(18, undef), (20, undef), (16, (.bool false))]) ⟨dpE hd127 15 Z Z, dpE hd127 17 Z Z, dpE hd127 13 Z Z, Zt⟩ (dg_off Z Z Z Z Zb)
  · exact fun w131 D hS128 hd128 => dg_sub (E' := [(16, (.bool false)), (21, undef)]) ⟨dpE hd128 13 Z Z, dpE hd128 18 Z Z, Zt⟩ (dg_plain Z (ow_pickF Z Z Z Zb))
  · exact fun w132 D hS129 hd129 => dg_sub (E' := [(22, (.bool false))]) ⟨dpE hd129 19 Z Z, Zt⟩ (dg_plain Z (ow_move Z Z Zb))
  · exact fun w133 D hS130 hd130 => dg_sub (E' := [(23, (.bool false)), (1, (.pointer (some p1)))]) ⟨dpE hd130 20 Z Z, Z, Zt⟩ (dg_off Z Z Z Z Zb)
  · exact fun w134 D hS131 hd131 => dg_sub (E' := [(24, undef), (23, (.bool false))]) ⟨dpE hd131 21 Z Z, dpE hd131 20 Z Z, Zt⟩ (dg_off Z Z Z Z Zb)
  · exact fun w135 D hS132 hd132 => dg_sub (E' := [(23, (.bool false)), (1, (.pointer (some p1)))]) ⟨dpE hd132 20 Z Z, Z, Zt⟩ (dg_off Z Z Z Z Zb)
  · exact fun w136 D hS133 hd133 => dg_sub (E' := [(26, undef), (23, (.bool false))]) ⟨dpE hd133 23 Z Z, dpE hd133 20 Z Z, Zt⟩ (dg_off Z Z Z Z Zb)
  · exact fun w137 D hS134 hd134 => dg_sub (E' := [(27, undef), (23, (.bool false))]) ⟨dpE hd134 24 Z Z, dpE hd134 20 Z Z, Zt⟩ (dg_off Z Z Z Z Zb)
  ·
   intro w138 D hS135 hd135
   have hC138 := hC1.no hS135
   refine lw_sub (E' := [(23, (.bool false)), (25, undef), (28, undef), (1, (.pointer (some p1))), (2, (.bool false))]) ⟨dpE hd135 20 Z Z, dpE hd135 22 Z Z, dpE hd135 25 Z Z, Z, Z, Zt⟩ (lw_off Z Z Z Z Z Z (lw_op Z Z Z (ow_pickF Z Z Z (lw_op Z Z Z (ow_assign Z Z (lw_nil (ew_then (cw_ret ?_))))))))
   obtain rfl := sj h
   exact ew_ret (res1 Z (.tmp Z)) ⟨_, Z, ((vbool _)), hC138.bx⟩

theorem w_impl_TestsValid {w : World} {M : Nat → Prop} (hG : ARep (RArr 4 RShape) w M shapes ⟨0, 0, none⟩) (hO : ∀ b, M b → b < w.heap.size) {v0p : Value} {a_list : List Test} (h0 : VRep (RSlice RTest) w M a_list v0p) {r : Bool} (h : F.impl_TestsValid a_list = some r) :
  Calls Tryd.prog 106 [v0p].toArray w fun e w' => ∃ v, e = .returned v ∧ VRep RBool w' M r v ∧ BX No w w' := by
 have hC : Cx No w M w M := Cx.start hO (fun _ e => e.elim)
 refine walk (N := 18) Tryd.func106 Z Tryd.ntmps106 Z (cw_seq (cw_region (lw_op Z Z Z (ow_assign Z Z (lw_nil (ew_then (cw_seq (cw_seq (cw_region (lw_op Z Z Z (ow_move Z Z (lw_op Z Z Z (ow_len Z Z h0 Tryd.underlying36 Z (lw_op Z Z Z (ow_gtr Z Z Z fun bb1 hbb1 => lw_nil (ew_then ?_))))))))))))))))
 replace h := cond_some h
 rcases h with ⟨hc1, h⟩ | ⟨hc1, h⟩
 ·
  obtain rfl := hbb1.trans hc1
  refine cw_true Z (cw_seq (cw_region (lw_op Z Z Z (ow_assign Z Z (lw_nil (ew_then (cw_ret (ew_thenR ?_))))))))
  obtain rfl := sj h
  exact ew_ret (res1 Z (.tmp Z)) ⟨_, Z, ((vbool _)), hC.bx⟩
 ·
  obtain rfl := hbb1.trans hc1
  refine cw_false Z (cw_skip (ew_then (cw_seq (cw_seq (cw_region (lw_op Z Z Z (ow_move Z Z (lw_op Z Z Z (ow_len Z Z h0 Tryd.underlying36 Z (lw_op Z Z Z (ow_move Z Z (lw_nil (ew_then ?_)))))))))))))
  replace h := bind_some h
  obtain ⟨lr1, hlr1, h⟩ := h
  refine cw_for hlr1 (fun s a w' => ∃ (M' : Nat → Prop), Fits 18 [(8, v0p), (9, (Zv (a_list.length : Int))), (10, (Zv s))] a ∧ Le w M w' M' ∧ Cx No w M w' M') ?_ ?_ ?_
  · exact fun a ha => ⟨M, ha.sub ⟨Z, Z, Z, Zt⟩, Le.refl _ _, hC⟩
  ·
   rintro k1 a w1 sr1 ⟨M1, hF1, hl1, hC1⟩ hb1 hR1
   refine cw_at (E := [(8, v0p), (9, (Zv (a_list.length : Int))), (10, (Zv k1))]) hF1 (cw_seq (cw_region (lw_op Z Z Z (ow_lss Z Z Z fun bb2 hbb2 => lw_nil (ew_then (cw_seq ?_))))))
   replace hb1 := cond_some hb1
   rcases hb1 with ⟨hc2, hb1⟩ | ⟨hc2, hb1⟩
   ·
    obtain rfl := hbb2.trans hc2
    refine cw_true Z (cw_skip (ew_then (cw_seq (cw_block (cw_seq (cw_region ?_))))))
    replace hb1 := bind_some hb1
    obtain ⟨x1, hx1, hb1⟩ := hb1
    refine lw_op Z Z Z (ow_indexSlice (R := RTest) Z Z Z (VRep.mono hl1 h0) Tryd.underlying36 (Tryd.sizeOf128 _) hx1 fun p1 hp1 => lw_op Z Z Z (ow_load (R := RTest) Z Z hp1 (Tryd.sizeOf128 _) (Tryd.isAgg128 _) fun v2 hv2 => lw_allocStore (R := RTest) Z Z Z Z Z Z Z Tryd.zeroValue128 Tryd.sizeOf128 Z Z Z (by simp) hv2 hC1 fun p2 w2 hp2 hb2 hl2 hC2 => lw_nil (ew_then (cw_seq (cw_region (lw_op Z Z Z (ow_load (R := RTest) Z Z hp2 (Tryd.sizeOf128 _) (Tryd.isAgg128 _) fun v3 hv3 => ?_)))))))
    replace hb1 := bind_some hb1
    obtain ⟨x2, hx2, hb1⟩ := hb1
    refine lw_op Z Z Z (ow_call Z Z Tryd.call159 (w_impl_TestValid (hG.mono (hl1.trans hl2)) hC2.old hv3 hx2) fun v4 w3 hv4 => ?_)
    obtain ⟨hv4, hb3⟩ := hv4
    have hl3 := Le.no M1 hb3
    have hC3 := hC2.no hb3
    obtain rfl := vbool_eq hv4
    refine lw_op Z Z Z (ow_not Z Z (lw_nil (ew_then ?_)))
    replace hb1 := cond_some hb1
    rcases hb1 with ⟨hc3, hb1⟩ | ⟨hc3, hb1⟩
    ·
     subst hc3
     refine cw_false Z (cw_skip (ew_blockN (ew_then (cw_region (lw_op Z Z Z (ow_add Z Z Z (lw_op Z Z Z (ow_move Z Z (lw_nil ?_)))))))))
     have lz1 := ((hl1.trans hl2).trans hl3)
     exact ew_nxt (W (k1 + 1)) hb1 fun a ha => ⟨M1, (ha.sub ⟨Z, Z, Z, Zt⟩), lz1, hC3⟩
    ·
     subst hc3
     refine cw_true Z (cw_seq (cw_region (lw_op Z Z Z (ow_assign Z Z (lw_nil (ew_then (cw_ret (ew_blockR (ew_thenR (ew_thenR (ew_blockR (ew_brkR (ew_thenR ?_)))))))))))))
     have e1 := hR1 _ (sj hb1).symm
     subst e1
     obtain rfl := sj h
     exact ew_ret (res1 Z (.tmp Z)) ⟨_, Z, ((vbool _)), hC3.bx⟩
   ·
    obtain rfl := hbb2.trans hc2
    exact cw_false Z (cw_exit (ew_thenX (ew_thenX (ew_blockX (ew_brk k1 hb1 fun a ha => ⟨M1, (ha.sub ⟨Z, Z, Z, Zt⟩), hl1, hC1⟩)))))
  ·
   rintro k2 a w4 hlr2 ⟨M2, hF2, hl4, hC4⟩
   subst hlr2
   refine ew_at (E := [(8, v0p), (9, (Zv (a_list.length : Int))), (10, (Zv k2))]) hF2 (ew_then (cw_seq (cw_region (lw_op Z Z Z (ow_assign Z Z (lw_nil (ew_then (cw_ret ?_))))))))
   obtain rfl := sj h
   exact ew_ret (res1 Z (.tmp Z)) ⟨_, Z, ((vbool _)), hC4.bx⟩

theorem w_impl_allSides {w : World} {M : Nat → Prop} (hG : ARep (RArr 4 RShape) w M shapes ⟨0, 0, none⟩) (hO : ∀ b, M b → b < w.heap.size)  {r : (List (List Span))} (h : F.impl_allSides = some r) :
  Calls Tryd.prog 135 [].toArray w fun e w' => ∃ v, e = .returned v ∧ VRep (RArr 4 (RSlice RSpan)) w' M r v ∧ BX No w w' := by
 have hC : Cx No w M w M := Cx.start hO (fun _ e => e.elim)
 refine walk (N := 14) Tryd.func135 Z Tryd.ntmps135 Z (cw_seq (cw_region (lw_op Z Z Z (ow_alloc Z (Tryd.zeroValue131 _) hC fun g1 w1 hg1 hg2 ho1 hb1 hl1 hC1 => ?_))))
 have hm1 : (Add g1 M) g1 := .inl Z
 have ho2 : OwnA (RArr 4 (RSlice RSpan)) w1 (Add g1 M) g1 131 [([] : List Span), ([] : List Span), ([] : List Span), ([] : List Span)] := OwnA.of ho1 ⟨Z, ⟨_, _, Z, (vslice_nil (R := RSpan) (w := w1) (M := (Add g1 M))).cells, _, _, Z, (vslice_nil (R := RSpan) (w := w1) (M := (Add g1 M))).cells, _, _, Z, (vslice_nil (R := RSpan) (w := w1) (M := (Add g1 M))).cells, _, _, Z, (vslice_nil (R := RSpan) (w := w1) (M := (Add g1 M))).cells, Z⟩⟩
 refine lw_nil (ew_then (cw_seq (cw_region (lw_op Z Z Z (ow_alloc Z (Tryd.zeroValue131 _) hC1 fun g2 w2 hg3 hg4 ho3 hb2 hl2 hC2 => ?_)))))
 have hn1 := Nat.ne_of_lt (Nat.lt_of_lt_of_le ho2.lt hg3)
 have ho4 := ho2.no hb2 hl2
 have hm2 : (Add g2 (Add g1 M)) g1 := .inr hm1
 have hm3 : (Add g2 (Add g1 M)) g2 := .inl Z
 have ho5 : OwnA (RArr 4 (RSlice RSpan)) w2 (Add g2 (Add g1 M)) g2 131 [([] : List Span), ([] : List Span), ([] : List Span), ([] : List Span)] := OwnA.of ho3 ⟨Z, ⟨_, _, Z, (vslice_nil (R := RSpan) (w := w2) (M := (Add g2 (Add g1 M)))).cells, _, _, Z, (vslice_nil (R := RSpan) (w := w2) (M := (Add g2 (Add g1 M)))).cells, _, _, Z, (vslice_nil (R := RSpan) (w := w2) (M := (Add g2 (Add g1 M)))).cells, _, _, Z, (vslice_nil (R := RSpan) (w := w2) (M := (Add g2 (Add g1 M)))).cells, Z⟩⟩
 refine lw_nil (ew_then (cw_seq (cw_seq (cw_region (lw_op Z Z Z (ow_move Z Z (lw_nil (ew_then ?_))))))))
 replace h := bind_some h
 obtain ⟨lr1, hlr1, h⟩ := h
 refine cw_for hlr1 (fun s a w' => ∃ (M' : Nat → Prop), Fits 14 [(0, (Zw g1 0)), (1, (Zw g2 0)), (3, (Zv s.1))] a ∧ Le w2 (Add g2 (Add g1 M)) w' M' ∧ Cx No w M w' M' ∧ OwnA (RArr 4 (RSlice RSpan)) w' M' g1 131 [([] : List Span), ([] : List Span), ([] : List Span), ([] : List Span)] ∧ M' g1 ∧ OwnA (RArr 4 (RSlice RSpan)) w' M' g2 131 s.2 ∧ M' g2) ?_ ?_ ?_
 · exact fun a ha => ⟨(Add g2 (Add g1 M)), ha.sub ⟨Z, Z, Z, Zt⟩, Le.refl _ _, hC2, ho4, hm2, ho5, hm3⟩
 ·
  rintro ⟨k1, y1⟩ a w3 sr1 ⟨M1, hF1, hl3, hC3, ho6, hm4, ho7, hm5⟩ hb3 hR1
  refine cw_at (E := [(0, (Zw g1 0)), (1, (Zw g2 0)), (3, (Zv k1))]) hF1 (cw_seq (cw_region (lw_op Z Z Z (ow_lss Z Z Z fun bb1 hbb1 => lw_nil (ew_then (cw_seq ?_))))))
  replace hb3 := cond_some hb3
  rcases hb3 with ⟨hc1, hb3⟩ | ⟨hc1, hb3⟩
  ·
   obtain rfl := hbb1.trans hc1
   refine cw_true Z (cw_skip (ew_then (cw_seq (cw_block (cw_seq (cw_region (lw_op Z Z Z (ow_move Z Z (lw_op Z Z Z (ow_assign Z Z (lw_nil (ew_then (cw_region (lw_op Z Z Z (ow_move Z Z (lw_op Z Z Z (ow_move Z Z ?_)))))))))))))))))
   replace hb3 := bind_some hb3
   obtain ⟨x1, hx1, hb3⟩ := hb3
   have lz1 := ((hl1.trans hl2).trans hl3)
   refine lw_op Z Z Z (ow_call Z Z Tryd.call142 (w_impl_FieldTop (hG.mono lz1) hC3.old hx1) fun v3 w4 hv3 => ?_)
   obtain ⟨hv3, hb4⟩ := hv3
   have hl4 := Le.no M1 hb4
   have hC4 := hC3.no hb4
   have ho8 := ho6.no hb4 hl4
   have ho9 := ho7.no hb4 hl4
   obtain rfl := vint_eq hv3
   refine lw_op Z Z Z (ow_build (v := .agg #[(Zv 0), (Zv x1)]) Z Z (by kernel_rfl) ?_)
   have hw1 : VRep RSpan w4 M1 ({ Lo := 0, Hi := x1 } : Span) (.agg #[(Zv 0), (Zv x1)]) := shut_Span
   refine lw_op Z Z Z (ow_buildSlice (R := RSpan) (xs := [({ Lo := 0, Hi := x1 } : Span)]) (cs := #[(Zv 0), (Zv x1)]) (e := 120) Z Z (by kernel_rfl) Z Z ⟨_, _, Z, hw1.cells, Z⟩ hC4 fun p1 w5 hw2 hb5 hl5 hC5 => ?_)
   have ho10 := ho8.no hb5 hl5
   have ho11 := ho9.no hb5 hl5
   replace hb3 := bind_some hb3
   obtain ⟨x2, hx2, hb3⟩ := hb3
   refine lw_op Z Z Z (ow_indexA (R := (RSlice RSpan)) Z Z Z Z ho11 Tryd.underlying131 (Tryd.sizeOf121 _) hx2 (lw_op0 Z Z (ow_storeElA (X := No) (R := (RSlice RSpan)) Z Z Z Z ho11 hx2 (Tryd.sizeOf121 _) hw2 hm5 (.inl hg4) hC5 fun w6 ho12 hb6 hl6 hC6 => ?_)))
   have ho13 := ho10.go hb6 (fun e => hn1 e) hl6
   refine lw_nil (ew_blockN (ew_then (cw_region (lw_op Z Z Z (ow_add Z Z Z (lw_op Z Z Z (ow_move Z Z (lw_nil ?_))))))))
   have lz2 := (((hl3.trans hl4).trans hl5).trans hl6)
   exact ew_nxt ((W (k1 + 1)), (List.set y1 (k1 : Int).toNat [({ Lo := 0, Hi := x1 } : Span)])) hb3 fun a ha => ⟨M1, (ha.sub ⟨Z, Z, Z, Zt⟩), lz2, hC6, ho13, hm4, ho12, hm5⟩
  ·
   obtain rfl := hbb1.trans hc1
   exact cw_false Z (cw_exit (ew_thenX (ew_thenX (ew_blockX (ew_brk (k1, y1) hb3 fun a ha => ⟨M1, (ha.sub ⟨Z, Z, Z, Zt⟩), hl3, hC3, ho6, hm4, ho7, hm5⟩)))))
 ·
  rintro ⟨k2, y2⟩ a w7 hlr2 ⟨M2, hF2, hl7, hC7, ho14, hm6, ho15, hm7⟩
  subst hlr2
  refine ew_at (E := [(0, (Zw g1 0)), (1, (Zw g2 0)), (3, (Zv k2))]) hF2 (ew_then (cw_seq (cw_region (lw_op Z Z Z (ow_loadA (R := (RArr 4 (RSlice RSpan))) Z Z Z ho15 (Tryd.sizeOf131 _) (Tryd.isAgg131 _) fun v6 hv6 => ?_)))))
  obtain ⟨cs1, h1, h2⟩ := ho14.own
  refine lw_op0 Z Z (ow_storeA (X := No) (R := (RArr 4 (RSlice RSpan))) Z Z Z Z h1 h2 (Tryd.sizeOf131 _) hv6 hm6 (.inl hg2) hC7 fun w8 ho16 hb7 hl8 hC8 => lw_nil (ew_then (cw_ret ?_)))
  obtain rfl := sj h
  obtain ⟨v7, hq1, hw3⟩ := resA ho16 (Tryd.sizeOf131 _) (Tryd.isAgg131 _) rfl
  exact ew_ret (res1 Z (.cell Z hq1)) ⟨_, Z, (hw3.mono hC8.back), hC8.bx⟩

theorem w_impl_stretch {w : World} {M : Nat → Prop} (_hG : ARep (RArr 4 RShape) w M shapes ⟨0, 0, none⟩) (hO : ∀ b, M b → b < w.heap.size) {v0p : Value} {a_rest : List Span} (h0 : VRep (RSlice RSpan) w M a_rest v0p) {a_at : Int} {a_top : Int} {r : Bool × Int} (h : F.impl_stretch a_rest a_at a_top = some r) :
  Calls Tryd.prog 193 [v0p, (.int .i64 a_at), (.int .i64 a_top)].toArray w fun e w' => ∃ v, e = .returned v ∧ (∃ u0 u1, v = .tuple #[u0, u1] ∧ VRep RBool w' M r.1 u0 ∧ VRep RInt w' M r.2 u1) ∧ BX No w w' := by
 have hC : Cx No w M w M := Cx.start hO (fun _ e => e.elim)
 clear _hG
 refine walk (N := 27) Tryd.func193 Z Tryd.ntmps193 Z (cw_seq (cw_region (lw_op Z Z Z (ow_assign Z Z (lw_op Z Z Z (ow_assign Z Z (lw_nil (ew_then (cw_seq (cw_seq (cw_region (lw_op Z Z Z (ow_move Z Z (lw_op Z Z Z (ow_len Z Z h0 Tryd.underlying121 Z (lw_op Z Z Z (ow_eqlI Z Z Z fun bb1 hbb1 => lw_nil (ew_then ?_))))))))))))))))))
 replace h := cond_some h
 rcases h with ⟨hc1, h⟩ | ⟨hc1, h⟩
 ·
  obtain rfl := hbb1.trans hc1
  refine cw_true Z (cw_seq (cw_region (lw_op Z Z Z (ow_move Z Z (lw_op Z Z Z (ow_assign Z Z (lw_op Z Z Z (ow_assign Z Z (lw_nil (ew_then (cw_ret (ew_thenR ?_))))))))))))
  obtain rfl := sj h
  exact ew_ret (res2 Z (.tmp Z) (.tmp Z)) ⟨_, Z, ⟨_, _, Z, ((vbool _)), ((vint _))⟩, hC.bx⟩
 ·
  obtain rfl := hbb1.trans hc1
  refine cw_false Z (cw_skip (ew_then (cw_seq (cw_seq (cw_region (lw_op Z Z Z (ow_move Z Z (lw_op Z Z Z (ow_move Z Z ?_)))))))))
  replace h := bind_some h
  obtain ⟨x1, hx1, h⟩ := h
  refine lw_op Z Z Z (ow_indexSlice (R := RSpan) Z Z Z h0 Tryd.underlying121 (Tryd.sizeOf120 _) hx1 fun p1 hp1 => lw_op Z Z Z (ow_fieldAddr Z Z Tryd.underlying120 Z (Tryd.sizeOf3 _) (lw_op Z Z Z (ow_load (R := RInt) Z Z (hp1.fld fld_Span_Lo) (Tryd.sizeOf3 _) (Tryd.isAgg3 _) fun v1 hv1 => ?_))))
  obtain rfl := vint_eq hv1
  refine lw_op Z Z Z (ow_lss Z Z Z fun bb2 hbb2 => lw_nil (ew_then ?_))
  replace h := cond_some h
  rcases h with ⟨hc2, h⟩ | ⟨hc2, h⟩
  ·
   obtain rfl := hbb2.trans hc2
   refine cw_true Z (cw_seq (cw_sub (E' := [(0, v0p), (7, (Zv 0))]) ⟨Z, Z, Zt⟩ (cw_drawQ 6 [PV (RSlice RSpan) M a_rest, PA RSpan M x1, PA RInt M x1.Lo, PEq (Zv x1.Lo), PEq (Zv (W (x1.Lo - 1))), PEq (.bool false)] (by kernel_rfl) Z (by kernel_rfl) ⟨PV.mono _ _ _, PA.mono _ _ _, PA.mono _ _ _, Zq, Zq, Zq, Zt⟩ ⟨?_, ?_, ?_, ?_, ?_, ?_, Zt⟩ ?_)))
   ·
    intro w1 D hS1 hd1
    have hl1 := Le.no M hS1
    exact dg_sub (E' := [(0, v0p)]) ⟨Z, Zt⟩ (dg_plain Z (ow_move Z Z ⟨BX.refl _ _, (VRep.mono hl1 h0)⟩))
   ·
    intro w2 D hS2 hd2
    have d1 : PV (RSlice RSpan) M a_rest (D 0) w2 := dpA hd2 0 Z
    generalize hq1 : (D 0) = v3 at d1
    exact dg_sub (E' := [(18, v3)]) ⟨congrArg some hq1, Zt⟩ (dg_plain Z (ow_indexSlice (R := RSpan) Z Z Z d1 Tryd.underlying121 (Tryd.sizeOf120 _) hx1 fun p3 hp3 => ⟨BX.refl _ _, ⟨_, Z, hp3⟩⟩))
   ·
    intro w3 D hS3 hd3
    have d2 : PA RSpan M x1 (D 1) w3 := dpA hd3 1 Z
    obtain ⟨p4, e1, ha1⟩ := d2
    exact dg_sub (E' := [(19, (.pointer (some p4)))]) ⟨congrArg some e1, Zt⟩ (dg_plain Z (ow_fieldAddr Z Z Tryd.underlying120 Z (Tryd.sizeOf3 _) ⟨BX.refl _ _, ⟨_, Z, (ha1.fld fld_Span_Lo)⟩⟩))
   ·
    intro w4 D hS4 hd4
    have d3 : PA RInt M x1.Lo (D 2) w4 := dpA hd4 2 Z
    obtain ⟨p5, e2, ha2⟩ := d3
    refine dg_sub (E' := [(20, (.pointer (some p5)))]) ⟨congrArg some e2, Zt⟩ (dg_plain Z (ow_load (R := RInt) Z Z ha2 (Tryd.sizeOf3 _) (Tryd.isAgg3 _) fun v4 hv4 => ?_))
    obtain rfl := vint_eq hv4
    exact Zb
   · exact fun w5 D hS5 hd5 => dg_sub (E' := [(21, (Zv x1.Lo))]) ⟨dpE hd5 3 Z Z, Zt⟩ (dg_plain Z (ow_sub Z Z Z Zb))
   · exact fun w6 D hS6 hd6 => dg_sub (E' := []) trivial (dg_plain Z (ow_assign Z Z Zb))
   ·
    intro w7 D hS7 hd7
    have hC7 := hC.no hS7
    refine lw_sub (E' := [(22, (Zv (W (x1.Lo - 1)))), (6, (.bool false)), (0, v0p), (7, (Zv 0))]) ⟨dpE hd7 4 Z Z, dpE hd7 5 Z Z, Z, Z, Zt⟩ (lw_op Z Z Z (ow_assign Z Z (lw_nil (ew_then (cw_ret (ew_thenR ?_))))))
    obtain rfl := sj h
    exact ew_ret (res2 Z (.tmp Z) (.tmp Z)) ⟨_, Z, ⟨_, _, Z, ((vbool _)), ((vint _))⟩, hC7.bx⟩
  ·
   obtain rfl := hbb2.trans hc2
   refine cw_false Z (cw_skip (ew_then (cw_seq (cw_sub (E' := [(0, v0p), (7, (Zv 0))]) ⟨Z, Z, Zt⟩ (cw_drawQ 5 [PV (RSlice RSpan) M a_rest, PA RSpan M x1, PA RInt M x1.Hi, PEq (Zv x1.Hi), PEq (.bool true)] (by kernel_rfl) Z (by kernel_rfl) ⟨PV.mono _ _ _, PA.mono _ _ _, PA.mono _ _ _, Zq, Zq, Zt⟩ ⟨?_, ?_, ?_, ?_, ?_, Zt⟩ ?_)))))
   ·
    intro w8 D hS8 hd8
    have hl8 := Le.no M hS8
    exact dg_sub (E' := [(0, v0p)]) ⟨Z, Zt⟩ (dg_plain Z (ow_move Z Z ⟨BX.refl _ _, (VRep.mono hl8 h0)⟩))
   ·
    intro w9 D hS9 hd9
    have d11 : PV (RSlice RSpan) M a_rest (D 0) w9 := dpA hd9 0 Z
    generalize hq2 : (D 0) = v6 at d11
    exact dg_sub (E' := [(23, v6)]) ⟨congrArg some hq2, Zt⟩ (dg_plain Z (ow_indexSlice (R := RSpan) Z Z Z d11 Tryd.underlying121 (Tryd.sizeOf120 _) hx1 fun p7 hp7 => ⟨BX.refl _ _, ⟨_, Z, hp7⟩⟩))
   ·
    intro w10 D hS10 hd10
    have d12 : PA RSpan M x1 (D 1) w10 := dpA hd10 1 Z
    obtain ⟨p8, e3, ha3⟩ := d12
    exact dg_sub (E' := [(24, (.pointer (some p8)))]) ⟨congrArg some e3, Zt⟩ (dg_plain Z (ow_fieldAddr Z Z Tryd.underlying120 Z (Tryd.sizeOf3 _) ⟨BX.refl _ _, ⟨_, Z, (ha3.fld fld_Span_Hi)⟩⟩))
   ·
    intro w11 D hS11 hd11
    have d13 : PA RInt M x1.Hi (D 2) w11 := dpA hd11 2 Z
    obtain ⟨p9, e4, ha4⟩ := d13
    refine dg_sub (E' := [(25, (.pointer (some p9)))]) ⟨congrArg some e4, Zt⟩ (dg_plain Z (ow_load (R := RInt) Z Z ha4 (Tryd.sizeOf3 _) (Tryd.isAgg3 _) fun v7 hv7 => ?_))
    obtain rfl := vint_eq hv7
    exact Zb
   · exact fun w12 D hS12 hd12 => dg_sub (E' := []) trivial (dg_plain Z (ow_assign Z Z Zb))
   ·
    intro w13 D hS13 hd13
    have hC13 := hC.no hS13
    refine lw_sub (E' := [(26, (Zv x1.Hi)), (6, (.bool true)), (0, v0p), (7, (Zv 0))]) ⟨dpE hd13 3 Z Z, dpE hd13 4 Z Z, Z, Z, Zt⟩ (lw_op Z Z Z (ow_assign Z Z (lw_nil (ew_then (cw_ret ?_)))))
    obtain rfl := sj h
    exact ew_ret (res2 Z (.tmp Z) (.tmp Z)) ⟨_, Z, ⟨_, _, Z, ((vbool _)), ((vint _))⟩, hC13.bx⟩

theorem w_impl_limitSpans {w : World} {M : Nat → Prop} (_hG : ARep (RArr 4 RShape) w M shapes ⟨0, 0, none⟩) (hO : ∀ b, M b → b < w.heap.size) {v0p : Value} {a_list : List Span} (h0 : VRep (RSlice RSpan) w M a_list v0p) {r : (List Span) × Bool} (h : F.impl_limitSpans a_list = some r) :
  Calls Tryd.prog 181 [v0p].toArray w fun e w' => ∃ v, e = .returned v ∧ (∃ u0 u1, v = .tuple #[u0, u1] ∧ VRep (RSlice RSpan) w' M r.1 u0 ∧ VRep RBool w' M r.2 u1) ∧ BX No w w' := by
 have hC : Cx No w M w M := Cx.start hO (fun _ e => e.elim)
 clear _hG
 refine walk (N := 8) Tryd.func181 Z Tryd.ntmps181 Z (cw_seq (cw_region (lw_op Z Z Z (ow_assign Z Z (lw_op Z Z Z (ow_assign Z Z (lw_nil (ew_then (cw_seq (cw_seq (cw_region (lw_op Z Z Z (ow_move Z Z (lw_op Z Z Z (ow_len Z Z h0 Tryd.underlying121 Z (lw_op Z Z Z (ow_gtr Z Z Z fun bb1 hbb1 => lw_nil (ew_then ?_))))))))))))))))))
 replace h := cond_some h
 rcases h with ⟨hc1, h⟩ | ⟨hc1, h⟩
 ·
  obtain rfl := hbb1.trans hc1
  refine cw_true Z (cw_seq (cw_region (lw_op Z Z Z (ow_assign Z Z (lw_op Z Z Z (ow_assign Z Z (lw_nil (ew_then (cw_ret (ew_thenR ?_))))))))))
  obtain rfl := sj h
  exact ew_ret (res2 Z (.tmp Z) (.tmp Z)) ⟨_, Z, ⟨_, _, Z, (VRep.mono hC.back (vslice_nil (R := RSpan) (w := w) (M := M))), ((vbool _))⟩, hC.bx⟩
 ·
  obtain rfl := hbb1.trans hc1
  refine cw_false Z (cw_skip (ew_then (cw_seq (cw_region (lw_op Z Z Z (ow_move Z Z (lw_op Z Z Z (ow_assign Z Z (lw_op Z Z Z (ow_assign Z Z (lw_nil (ew_then (cw_ret ?_)))))))))))))
  obtain rfl := sj h
  exact ew_ret (res2 Z (.tmp Z) (.tmp Z)) ⟨_, Z, ⟨_, _, Z, (VRep.mono hC.back h0), ((vbool _))⟩, hC.bx⟩

theorem w_impl_inBoth {w : World} {M : Nat → Prop} (_hG : ARep (RArr 4 RShape) w M shapes ⟨0, 0, none⟩) (hO : ∀ b, M b → b < w.heap.size) {b0 a_inA : Bool} (h0 : b0 = a_inA) {b1 a_inB : Bool} (h1 : b1 = a_inB) {r : Bool} (h : F.impl_inBoth a_inA a_inB = some r) :
  Calls Tryd.prog 182 [(.bool b0), (.bool b1)].toArray w fun e w' => ∃ v, e = .returned v ∧ VRep RBool w' M r v ∧ BX No w w' := by
 have hC : Cx No w M w M := Cx.start hO (fun _ e => e.elim)
 clear _hG
 refine walk (N := 9) Tryd.func182 Z Tryd.ntmps182 Z (cw_seq (cw_region (lw_op Z Z Z (ow_assign Z Z (lw_nil (ew_then (cw_seq (cw_region (lw_op Z Z Z (ow_move Z Z (lw_op Z Z Z (ow_move Z Z ?_))))))))))))
 replace h := cond_some h
 rcases h with ⟨hc1, h⟩ | ⟨hc1, h⟩
 ·
  obtain rfl := h0.trans hc1
  refine lw_on Z Z Z Z Z Z (ow_move Z Z (lw_op Z Z Z (ow_pickT Z Z Z (lw_op Z Z Z (ow_assign Z Z (lw_nil (ew_then (cw_ret ?_))))))))
  obtain rfl := sj h
  exact ew_ret (res1 Z (.tmp Z)) ⟨_, Z, ((vbool_of h1)), hC.bx⟩
 ·
  obtain rfl := h0.trans hc1
  refine lw_off Z Z Z Z Z Z (lw_op Z Z Z (ow_pickF Z Z Z (lw_op Z Z Z (ow_assign Z Z (lw_nil (ew_then (cw_ret ?_)))))))
  obtain rfl := sj h
  exact ew_ret (res1 Z (.tmp Z)) ⟨_, Z, ((vbool _)), hC.bx⟩

theorem w_impl_sweepSpans__impl_inBoth {w : World} {M : Nat → Prop} (hG : ARep (RArr 4 RShape) w M shapes ⟨0, 0, none⟩) (hO : ∀ b, M b → b < w.heap.size) {v0p : Value} {a_a : List Span} (h0 : VRep (RSlice RSpan) w M a_a v0p) {v1p : Value} {a_b : List Span} (h1 : VRep (RSlice RSpan) w M a_b v1p) {a_top : Int} {r : (List Span)} (h : F.impl_sweepSpans__impl_inBoth a_a a_b a_top = some r) :
  Calls Tryd.prog 169 [v0p, v1p, (.int .i64 a_top), (.func (.func 182) #[] #[])].toArray w fun e w' => ∃ v, e = .returned v ∧ VRep (RSlice RSpan) w' M r v ∧ BX No w w' := by
 obtain ⟨i120, hi120, hz120, hs120, hy120⟩ := info120
 have hC : Cx No w M w M := Cx.start hO (fun _ e => e.elim)
 refine walk (N := 107) Tryd.func169 Z Tryd.ntmps169 Z (cw_seq (cw_region (lw_op Z Z Z (ow_assign Z Z (lw_nil (ew_then (cw_seq (cw_region (lw_op Z Z Z (ow_assign Z Z (lw_nil (ew_then (cw_seq (cw_region (lw_op Z Z Z (ow_assign Z Z (lw_op Z Z Z (ow_assign Z Z (lw_nil (ew_then (cw_seq (cw_seq (cw_region (lw_op Z Z Z (ow_assign Z Z (lw_nil (ew_then ?_)))))))))))))))))))))))))))
 have hr1 : OwnRow RSpan w.heap.size 120 w M ([] : List Span) (.slice none 0 0) := ownrow_nil
 replace h := bind_some h
 obtain ⟨lr1, hlr1, h⟩ := h
 refine cw_for hlr1 (fun s a w' => ∃ (M' : Nat → Prop) (v0c : Value), Fits 107 [(0, v0p), (1, v1p), (2, (Zv a_top)), (3, (.func (.func 182) #[] #[])), (9, v0c), (10, (Zv s.2.1)), (11, (Zv s.2.2.1)), (12, (Zv s.2.2.2))] a ∧ Le w M w' M' ∧ Cx No w M w' M' ∧ OwnRow RSpan w.heap.size 120 w' M' s.1 v0c) ?_ ?_ ?_
 · exact fun a ha => ⟨M, (.slice none 0 0), ha.sub ⟨Z, Z, Z, Z, Z, Z, Z, Z, Zt⟩, Le.refl _ _, hC, hr1⟩
 ·
  rintro ⟨y1, k1, k2, k3⟩ a w1 sr1 ⟨M1, v1, hF1, hl1, hC1, hw1⟩ hb1 hR1
  refine cw_at (E := [(0, v0p), (1, v1p), (2, (Zv a_top)), (3, (.func (.func 182) #[] #[])), (9, v1), (10, (Zv k1)), (11, (Zv k2)), (12, (Zv k3))]) hF1 (cw_seq (cw_seq (cw_region (lw_op Z Z Z (ow_move Z Z (lw_op Z Z Z (ow_move Z Z (lw_op Z Z Z (ow_leq Z Z Z fun bb1 hbb1 => lw_nil (ew_then ?_))))))))))
  replace hb1 := cond_some hb1
  rcases hb1 with ⟨hc1, hb1⟩ | ⟨hc1, hb1⟩
  ·
   obtain rfl := hbb1.trans hc1
   refine cw_true Z (cw_skip (ew_then (cw_block (cw_seq ?_))))
   replace hb1 := bind_some hb1
   obtain ⟨lr2, hlr2, hb1⟩ := hb1
   refine cw_for hlr2 (fun s a w' => ∃ (M' : Nat → Prop), Fits 107 [(0, v0p), (1, v1p), (2, (Zv a_top)), (3, (.func (.func 182) #[] #[])), (9, v1), (10, (Zv s.1)), (11, (Zv k2)), (12, (Zv k3))] a ∧ Le w1 M1 w' M' ∧ Cx No w M w' M' ∧ OwnRow RSpan w.heap.size 120 w' M' s.2 v1) ?_ ?_ ?_
   · exact fun a ha => ⟨M1, ha.sub ⟨Z, Z, Z, Z, Z, Z, Z, Z, Zt⟩, Le.refl _ _, hC1, hw1⟩
   ·
    rintro ⟨k4, y2⟩ a w2 sr2 ⟨M2, hF2, hl2, hC2, hw2⟩ hb2 hR2
    refine cw_at (E := [(0, v0p), (1, v1p), (2, (Zv a_top)), (3, (.func (.func 182) #[] #[])), (9, v1), (10, (Zv k4)), (11, (Zv k2)), (12, (Zv k3))]) hF2 (cw_seq (cw_seq (cw_region (lw_op Z Z Z (ow_move Z Z (lw_op Z Z Z (ow_move Z Z (lw_op Z Z Z (ow_len Z Z (VRep.mono (hl1.trans hl2) h0) Tryd.underlying121 Z (lw_op Z Z Z (ow_lss Z Z Z fun bb2 hbb2 => lw_op Z Z Z (ow_move Z Z ?_))))))))))))
    replace hb2 := cond_some hb2
    rcases hb2 with ⟨hc2, hb2⟩ | ⟨hc2, hb2⟩
    ·
     obtain rfl := hbb2.trans hc2
     refine lw_on Z Z Z Z Z Z (ow_move Z Z (lw_on Z Z Z Z Z Z (ow_move Z Z ?_)))
     replace hb2 := bind_some hb2
     obtain ⟨x1, hx1, hb2⟩ := hb2
     refine lw_on Z Z Z Z Z Z (ow_indexSlice (R := RSpan) Z Z Z (VRep.mono (hl1.trans hl2) h0) Tryd.underlying121 (Tryd.sizeOf120 _) hx1 fun p1 hp1 => lw_on Z Z Z Z Z Z (ow_fieldAddr Z Z Tryd.underlying120 Z (Tryd.sizeOf3 _) (lw_on Z Z Z Z Z Z (ow_load (R := RInt) Z Z (hp1.fld fld_Span_Hi) (Tryd.sizeOf3 _) (Tryd.isAgg3 _) fun v7 hv7 => ?_))))
     obtain rfl := vint_eq hv7
     refine lw_on Z Z Z Z Z Z (ow_move Z Z (lw_on Z Z Z Z Z Z (ow_lss Z Z Z fun bb3 hbb3 => lw_op Z Z Z (ow_pickT Z Z Z (lw_nil (ew_then ?_))))))
     replace hb2 := cond_some hb2
     rcases hb2 with ⟨hc3, hb2⟩ | ⟨hc3, hb2⟩
     ·
      obtain rfl := hbb3.trans hc3
      exact cw_true Z (cw_skip (ew_then (cw_block (cw_region (lw_op Z Z Z (ow_move Z Z (lw_op Z Z Z (ow_add Z Z Z (lw_op Z Z Z (ow_assign Z Z (lw_nil (ew_blockN (ew_nxt ((W (k4 + 1)), y2) hb2 fun a ha => ⟨M2, (ha.sub ⟨Z, Z, Z, Z, Z, Z, Z, Z, Zt⟩), hl2, hC2, hw2⟩)))))))))))))
     ·
      obtain rfl := hbb3.trans hc3
      exact cw_false Z (cw_exit (ew_thenX (ew_thenX (ew_blockX (ew_brk (k4, y2) hb2 fun a ha => ⟨M2, (ha.sub ⟨Z, Z, Z, Z, Z, Z, Z, Z, Zt⟩), hl2, hC2, hw2⟩)))))
    ·
     obtain rfl := hbb2.trans hc2
     exact lw_off Z Z Z Z Z Z (lw_off Z Z Z Z Z Z (lw_off Z Z Z Z Z Z (lw_off Z Z Z Z Z Z (lw_off Z Z Z Z Z Z (lw_off Z Z Z Z Z Z (lw_off Z Z Z Z Z Z (lw_op Z Z Z (ow_pickF Z Z Z (lw_nil (ew_then (cw_false Z (cw_exit (ew_thenX (ew_thenX (ew_blockX (ew_brk (k4, y2) hb2 fun a ha => ⟨M2, (ha.sub ⟨Z, Z, Z, Z, Z, Z, Z, Z, Zt⟩), hl2, hC2, hw2⟩))))))))))))))))
   ·
    rintro ⟨k5, y3⟩ a w3 hlr3 ⟨M3, hF3, hl3, hC3, hw3⟩
    subst hlr3
    refine ew_at (E := [(0, v0p), (1, v1p), (2, (Zv a_top)), (3, (.func (.func 182) #[] #[])), (9, v1), (10, (Zv k5)), (11, (Zv k2)), (12, (Zv k3))]) hF3 (ew_then (cw_seq ?_))
    replace hb1 := bind_some hb1
    obtain ⟨lr3, hlr4, hb1⟩ := hb1
    refine cw_for hlr4 (fun s a w' => ∃ (M' : Nat → Prop), Fits 107 [(0, v0p), (1, v1p), (2, (Zv a_top)), (3, (.func (.func 182) #[] #[])), (9, v1), (10, (Zv k5)), (11, (Zv s.1)), (12, (Zv k3))] a ∧ Le w3 M3 w' M' ∧ Cx No w M w' M' ∧ OwnRow RSpan w.heap.size 120 w' M' s.2 v1) ?_ ?_ ?_
    · exact fun a ha => ⟨M3, ha.sub ⟨Z, Z, Z, Z, Z, Z, Z, Z, Zt⟩, Le.refl _ _, hC3, hw3⟩
    ·
     rintro ⟨k6, y4⟩ a w4 sr3 ⟨M4, hF4, hl4, hC4, hw4⟩ hb3 hR3
     refine cw_at (E := [(0, v0p), (1, v1p), (2, (Zv a_top)), (3, (.func (.func 182) #[] #[])), (9, v1), (10, (Zv k5)), (11, (Zv k6)), (12, (Zv k3))]) hF4 (cw_seq (cw_seq (cw_region (lw_op Z Z Z (ow_move Z Z (lw_op Z Z Z (ow_move Z Z ?_)))))))
     have lz1 := ((hl1.trans hl3).trans hl4)
     refine lw_op Z Z Z (ow_len Z Z (VRep.mono lz1 h1) Tryd.underlying121 Z (lw_op Z Z Z (ow_lss Z Z Z fun bb4 hbb4 => lw_op Z Z Z (ow_move Z Z ?_))))
     replace hb3 := cond_some hb3
     rcases hb3 with ⟨hc4, hb3⟩ | ⟨hc4, hb3⟩
     ·
      obtain rfl := hbb4.trans hc4
      refine lw_on Z Z Z Z Z Z (ow_move Z Z (lw_on Z Z Z Z Z Z (ow_move Z Z ?_)))
      replace hb3 := bind_some hb3
      obtain ⟨x2, hx2, hb3⟩ := hb3
      refine lw_on Z Z Z Z Z Z (ow_indexSlice (R := RSpan) Z Z Z (VRep.mono lz1 h1) Tryd.underlying121 (Tryd.sizeOf120 _) hx2 fun p2 hp2 => lw_on Z Z Z Z Z Z (ow_fieldAddr Z Z Tryd.underlying120 Z (Tryd.sizeOf3 _) (lw_on Z Z Z Z Z Z (ow_load (R := RInt) Z Z (hp2.fld fld_Span_Hi) (Tryd.sizeOf3 _) (Tryd.isAgg3 _) fun v12 hv12 => ?_))))
      obtain rfl := vint_eq hv12
      refine lw_on Z Z Z Z Z Z (ow_move Z Z (lw_on Z Z Z Z Z Z (ow_lss Z Z Z fun bb5 hbb5 => lw_op Z Z Z (ow_pickT Z Z Z (lw_nil (ew_then ?_))))))
      replace hb3 := cond_some hb3
      rcases hb3 with ⟨hc5, hb3⟩ | ⟨hc5, hb3⟩
      ·
       obtain rfl := hbb5.trans hc5
       exact cw_true Z (cw_skip (ew_then (cw_block (cw_region (lw_op Z Z Z (ow_move Z Z (lw_op Z Z Z (ow_add Z Z Z (lw_op Z Z Z (ow_assign Z Z (lw_nil (ew_blockN (ew_nxt ((W (k6 + 1)), y4) hb3 fun a ha => ⟨M4, (ha.sub ⟨Z, Z, Z, Z, Z, Z, Z, Z, Zt⟩), hl4, hC4, hw4⟩)))))))))))))
      ·
       obtain rfl := hbb5.trans hc5
       exact cw_false Z (cw_exit (ew_thenX (ew_thenX (ew_blockX (ew_brk (k6, y4) hb3 fun a ha => ⟨M4, (ha.sub ⟨Z, Z, Z, Z, Z, Z, Z, Z, Zt⟩), hl4, hC4, hw4⟩)))))
     ·
      obtain rfl := hbb4.trans hc4
      exact lw_off Z Z Z Z Z Z (lw_off Z Z Z Z Z Z (lw_off Z Z Z Z Z Z (lw_off Z Z Z Z Z Z (lw_off Z Z Z Z Z Z (lw_off Z Z Z Z Z Z (lw_off Z Z Z Z Z Z (lw_op Z Z Z (ow_pickF Z Z Z (lw_nil (ew_then (cw_false Z (cw_exit (ew_thenX (ew_thenX (ew_blockX (ew_brk (k6, y4) hb3 fun a ha => ⟨M4, (ha.sub ⟨Z, Z, Z, Z, Z, Z, Z, Z, Zt⟩), hl4, hC4, hw4⟩))))))))))))))))
    ·
     rintro ⟨k7, y5⟩ a w5 hlr5 ⟨M5, hF5, hl5, hC5, hw5⟩
     subst hlr5
     refine ew_at (E := [(0, v0p), (1, v1p), (2, (Zv a_top)), (3, (.func (.func 182) #[] #[])), (9, v1), (10, (Zv k5)), (11, (Zv k7)), (12, (Zv k3))]) hF5 (ew_then (cw_seq (cw_region (lw_op Z Z Z (ow_move Z Z (lw_op Z Z Z (ow_move Z Z ?_)))))))
     replace hb1 := bind_some hb1
     obtain ⟨y6, hy6, hb1⟩ := hb1
     have lz2 := ((hl1.trans hl3).trans hl5)
     refine lw_op Z Z Z (ow_sliceFrom (R := RSpan) Z Z Z (VRep.mono lz2 h0) Tryd.underlying121 (Tryd.sizeOf120 _) (dropF_some hy6).2 fun v15 hv15 => ?_)
     rw [← (dropF_some hy6).1] at hv15
     refine lw_op Z Z Z (ow_move Z Z (lw_op Z Z Z (ow_move Z Z ?_)))
     replace hb1 := bind_some hb1
     obtain ⟨x3, hx3, hb1⟩ := hb1
     refine lw_op Z Z Z (ow_call Z Z Tryd.call193 (w_impl_stretch (hG.mono lz2) hC5.old hv15 hx3) fun v16 w6 hv16 => ?_)
     obtain ⟨⟨v17, v18, rfl, hv17, hv18⟩, hb4⟩ := hv16
     have hl6 := Le.no M5 hb4
     have hC6 := hC5.no hb4
     have hr2 := hw5.no hb4
     obtain ⟨bb6, hbb6, rfl⟩ := vbool_ex hv17
     obtain rfl := vint_eq hv18
     refine lw_op Z Z Z (ow_move Z Z (lw_op Z Z Z (ow_extract Z Z Z (lw_op Z Z Z (ow_extract Z Z Z (lw_op Z Z Z (ow_assign Z Z (lw_op Z Z Z (ow_assign Z Z (lw_nil (ew_then (cw_seq (cw_region (lw_op Z Z Z (ow_move Z Z (lw_op Z Z Z (ow_move Z Z ?_)))))))))))))))))
     replace hb1 := bind_some hb1
     obtain ⟨y7, hy7, hb1⟩ := hb1
     refine lw_op Z Z Z (ow_sliceFrom (R := RSpan) Z Z Z (VRep.mono (lz2.trans hl6) h1) Tryd.underlying121 (Tryd.sizeOf120 _) (dropF_some hy7).2 fun v19 hv19 => ?_)
     rw [← (dropF_some hy7).1] at hv19
     refine lw_op Z Z Z (ow_move Z Z (lw_op Z Z Z (ow_move Z Z ?_)))
     replace hb1 := bind_some hb1
     obtain ⟨x4, hx4, hb1⟩ := hb1
     refine lw_op Z Z Z (ow_call Z Z Tryd.call193 (w_impl_stretch (hG.mono (lz2.trans hl6)) hC6.old hv19 hx4) fun v20 w7 hv20 => ?_)
     obtain ⟨⟨v21, v22, rfl, hv21, hv22⟩, hb5⟩ := hv20
     have hl7 := Le.no M5 hb5
     have hC7 := hC6.no hb5
     have hr3 := hr2.no hb5
     obtain ⟨bb7, hbb7, rfl⟩ := vbool_ex hv21
     obtain rfl := vint_eq hv22
     refine lw_op Z Z Z (ow_move Z Z (lw_op Z Z Z (ow_extract Z Z Z (lw_op Z Z Z (ow_extract Z Z Z (lw_op Z Z Z (ow_assign Z Z (lw_op Z Z Z (ow_assign Z Z (lw_nil (ew_then (cw_seq (cw_region (lw_op Z Z Z (ow_move Z Z (lw_op Z Z Z (ow_move Z Z (lw_op Z Z Z (ow_min Z Z Z (lw_op Z Z Z (ow_assign Z Z (lw_nil (ew_then (cw_seq (cw_seq (cw_region (lw_op Z Z Z (ow_move Z Z (lw_op Z Z Z (ow_move Z Z (lw_op Z Z Z (ow_move Z Z ?_))))))))))))))))))))))))))))))))
     replace hb1 := bind_some hb1
     obtain ⟨x5, hx5, hb1⟩ := hb1
     have lz3 := ((lz2.trans hl6).trans hl7)
     refine lw_op Z Z Z (ow_callv Z Z Z Tryd.call182 (w_impl_inBoth (hG.mono lz3) hC7.old hbb6 hbb7 hx5) fun v23 w8 hv23 => ?_)
     obtain ⟨hv23, hb6⟩ := hv23
     have hl8 := Le.no M5 hb6
     have hC8 := hC7.no hb6
     have hr4 := hr3.no hb6
     obtain rfl := vbool_eq hv23
     refine lw_nil (ew_then ?_)
     replace hb1 := cond_some hb1
     rcases hb1 with ⟨hc6, hb1⟩ | ⟨hc6, hb1⟩
     ·
      subst hc6
      refine cw_true Z (cw_seq (cw_region (lw_op Z Z Z (ow_move Z Z (lw_op Z Z Z (ow_lenOwn Z Z hr4 Tryd.underlying121 (lw_op Z Z Z (ow_assign Z Z (lw_nil (ew_then (cw_seq (cw_region (lw_op Z Z Z (ow_move Z Z (lw_op Z Z Z (ow_gtr Z Z Z fun bb8 hbb8 => lw_op Z Z Z (ow_move Z Z ?_)))))))))))))))))
      replace hb1 := cond_some hb1
      rcases hb1 with ⟨hc7, hb1⟩ | ⟨hc7, hb1⟩
      ·
       obtain rfl := hbb8.trans hc7
       refine lw_on Z Z Z Z Z Z (ow_move Z Z (lw_on Z Z Z Z Z Z (ow_move Z Z (lw_on Z Z Z Z Z Z (ow_sub Z Z Z ?_)))))
       replace hb1 := bind_some hb1
       obtain ⟨x6, hx6, hb1⟩ := hb1
       refine lw_on Z Z Z Z Z Z (ow_indexRow (R := RSpan) Z Z Z hr4 Tryd.underlying121 (Tryd.sizeOf120 _) hx6 (lw_on Z Z Z Z Z Z (ow_fieldAddr Z Z Tryd.underlying120 Z (Tryd.sizeOf3 _) (lw_on Z Z Z Z Z Z (ow_loadElRow (R := RSpan) (S := RInt) Z Z Z hr4 (orow_blk hr4 hx6) hx6 fld_Span_Hi (Tryd.sizeOf3 _) (Tryd.isAgg3 _) fun v24 hv24 => ?_)))))
       obtain rfl := vint_eq hv24
       refine lw_on Z Z Z Z Z Z (ow_add Z Z Z (lw_on Z Z Z Z Z Z (ow_move Z Z (lw_on Z Z Z Z Z Z (ow_eqlI Z Z Z fun bb9 hbb9 => lw_op Z Z Z (ow_pickT Z Z Z (lw_nil (ew_then ?_))))))))
       replace hb1 := cond_some hb1
       rcases hb1 with ⟨hc8, hb1⟩ | ⟨hc8, hb1⟩
       ·
        obtain rfl := hbb9.trans hc8
        refine cw_true Z (cw_region (lw_op Z Z Z (ow_move Z Z (lw_op Z Z Z (ow_move Z Z (lw_op Z Z Z (ow_sub Z Z Z (lw_op Z Z Z (ow_move Z Z (lw_op Z Z Z (ow_indexRow (R := RSpan) Z Z Z hr4 Tryd.underlying121 (Tryd.sizeOf120 _) hx6 (lw_op Z Z Z (ow_fieldAddr Z Z Tryd.underlying120 Z (Tryd.sizeOf3 _) (lw_op0 Z Z (ow_storeElRow (X := No) (R := RSpan) (S := RInt) Z Z Z Z hr4 (orow_blk hr4 hx6) hx6 set_Span_Hi (Tryd.sizeOf3 _) (vint _) (Nat.le_refl _) hC8 fun w9 ho1 hb7 hl9 hC9 => lw_nil (ew_then (cw_region (lw_op Z Z Z (ow_move Z Z (lw_op Z Z Z (ow_add Z Z Z (lw_op Z Z Z (ow_assign Z Z (lw_nil (ew_blockN ?_)))))))))))))))))))))))))
        have lz4 := ((lz3.trans hl8).trans hl9)
        exact ew_nxt ((List.set y5 ((W ((y5.length : Int) - 1)) : Int).toNat { x6 with Hi := (imin x3.2 x4.2) }), k5, k7, (W ((imin x3.2 x4.2) + 1))) hb1 fun a ha => ⟨M5, v1, (ha.sub ⟨Z, Z, Z, Z, Z, Z, Z, Z, Zt⟩), lz4, hC9, ho1⟩
       ·
        obtain rfl := hbb9.trans hc8
        refine cw_false Z (cw_region (lw_op Z Z Z (ow_move Z Z (lw_op Z Z Z (ow_move Z Z (lw_op Z Z Z (ow_move Z Z (lw_op Z Z Z (ow_build (v := .agg #[(Zv k3), (Zv (imin x3.2 x4.2))]) Z Z (by kernel_rfl) ?_)))))))))
        have hw6 : VRep RSpan w8 M5 ({ Lo := k3, Hi := (imin x3.2 x4.2) } : Span) (.agg #[(Zv k3), (Zv (imin x3.2 x4.2))]) := shut_Span
        refine lw_op Z Z Z (ow_buildSlice (R := RSpan) (xs := [({ Lo := k3, Hi := (imin x3.2 x4.2) } : Span)]) (cs := #[(Zv k3), (Zv (imin x3.2 x4.2))]) (e := 120) Z Z (by kernel_rfl) Z Z ⟨_, _, Z, hw6.cells, Z⟩ hC8 fun p3 w10 hw7 hb8 hl10 hC10 => ?_)
        have hr5 := hr4.no hb8
        replace hb1 := bind_some hb1
        obtain ⟨z1, hz1, hb1⟩ := hb1
        refine lw_op Z Z Z (ow_append (R := RSpan) Z Z Z Z Tryd.underlying121 hi120 hz120 hs120 hy120 Z Z Z Z hr5 hw7 hz1 hC10 fun v25 w11 M6 hr6 hb9 hl11 hC11 hM1 hat1 => lw_op Z Z Z (ow_assign Z Z (lw_nil (ew_then (cw_region (lw_op Z Z Z (ow_move Z Z (lw_op Z Z Z (ow_add Z Z Z (lw_op Z Z Z (ow_assign Z Z (lw_nil (ew_blockN ?_)))))))))))))
        have lz5 := (((lz3.trans hl8).trans hl10).trans hl11)
        exact ew_nxt (z1, k5, k7, (W ((imin x3.2 x4.2) + 1))) hb1 fun a ha => ⟨M6, v25, (ha.sub ⟨Z, Z, Z, Z, Z, Z, Z, Z, Zt⟩), lz5, hC11, hr6⟩
      ·
       obtain rfl := hbb8.trans hc7
       refine lw_off Z Z Z Z Z Z (lw_off Z Z Z Z Z Z (lw_off Z Z Z Z Z Z (lw_off Z Z Z Z Z Z (lw_off Z Z Z Z Z Z (lw_off Z Z Z Z Z Z (lw_off Z Z Z Z Z Z (lw_off Z Z Z Z Z Z (lw_off Z Z Z Z Z Z (lw_op Z Z Z (ow_pickF Z Z Z (lw_nil (ew_then (cw_false Z (cw_region (lw_op Z Z Z (ow_move Z Z (lw_op Z Z Z (ow_move Z Z (lw_op Z Z Z (ow_move Z Z (lw_op Z Z Z (ow_build (v := .agg #[(Zv k3), (Zv (imin x3.2 x4.2))]) Z Z (by kernel_rfl) ?_))))))))))))))))))))))
       have hw8 : VRep RSpan w8 M5 ({ Lo := k3, Hi := (imin x3.2 x4.2) } : Span) (.agg #[(Zv k3), (Zv (imin x3.2 x4.2))]) := shut_Span
       refine lw_op Z Z Z (ow_buildSlice (R := RSpan) (xs := [({ Lo := k3, Hi := (imin x3.2 x4.2) } : Span)]) (cs := #[(Zv k3), (Zv (imin x3.2 x4.2))]) (e := 120) Z Z (by kernel_rfl) Z Z ⟨_, _, Z, hw8.cells, Z⟩ hC8 fun p4 w12 hw9 hb10 hl12 hC12 => ?_)
       have hr7 := hr4.no hb10
       replace hb1 := bind_some hb1
       obtain ⟨z2, hz2, hb1⟩ := hb1
       refine lw_op Z Z Z (ow_append (R := RSpan) Z Z Z Z Tryd.underlying121 hi120 hz120 hs120 hy120 Z Z Z Z hr7 hw9 hz2 hC12 fun v26 w13 M7 hr8 hb11 hl13 hC13 hM2 hat2 => lw_op Z Z Z (ow_assign Z Z (lw_nil (ew_then (cw_region (lw_op Z Z Z (ow_move Z Z (lw_op Z Z Z (ow_add Z Z Z (lw_op Z Z Z (ow_assign Z Z (lw_nil (ew_blockN ?_)))))))))))))
       have lz6 := (((lz3.trans hl8).trans hl12).trans hl13)
       exact ew_nxt (z2, k5, k7, (W ((imin x3.2 x4.2) + 1))) hb1 fun a ha => ⟨M7, v26, (ha.sub ⟨Z, Z, Z, Z, Z, Z, Z, Z, Zt⟩), lz6, hC13, hr8⟩
     ·
      subst hc6
      exact cw_false Z (cw_skip (ew_then (cw_region (lw_op Z Z Z (ow_move Z Z (lw_op Z Z Z (ow_add Z Z Z (lw_op Z Z Z (ow_assign Z Z (lw_nil (ew_blockN (ew_nxt (y5, k5, k7, (W ((imin x3.2 x4.2) + 1))) hb1 fun a ha => ⟨M5, v1, (ha.sub ⟨Z, Z, Z, Z, Z, Z, Z, Z, Zt⟩), (lz3.trans hl8), hC8, hr4⟩))))))))))))
  ·
   obtain rfl := hbb1.trans hc1
   exact cw_false Z (cw_exit (ew_thenX (ew_thenX (ew_blockX (ew_brk (y1, k1, k2, k3) hb1 fun a ha => ⟨M1, v1, (ha.sub ⟨Z, Z, Z, Z, Z, Z, Z, Z, Zt⟩), hl1, hC1, hw1⟩)))))
 ·
  rintro ⟨y8, k8, k9, k10⟩ a w14 hlr6 ⟨M8, v27, hF6, hl14, hC14, hw10⟩
  subst hlr6
  refine ew_at (E := [(0, v0p), (1, v1p), (2, (Zv a_top)), (3, (.func (.func 182) #[] #[])), (9, v27), (10, (Zv k8)), (11, (Zv k9)), (12, (Zv k10))]) hF6 (ew_then (cw_seq (cw_region (lw_op Z Z Z (ow_move Z Z (lw_op Z Z Z (ow_assign Z Z (lw_nil (ew_then (cw_ret ?_))))))))))
  obtain rfl := sj h
  exact ew_ret (res1 Z (.tmp Z)) ⟨_, Z, (hw10.freezeBack hC14 hO), hC14.bx⟩

theorem w_impl_meetSpans {w : World} {M : Nat → Prop} (hG : ARep (RArr 4 RShape) w M shapes ⟨0, 0, none⟩) (hO : ∀ b, M b → b < w.heap.size) {v0p : Value} {a_a : List Span} (h0 : VRep (RSlice RSpan) w M a_a v0p) {v1p : Value} {a_b : List Span} (h1 : VRep (RSlice RSpan) w M a_b v1p) {a_top : Int} {r : (List Span) × Bool} (h : F.impl_meetSpans a_a a_b a_top = some r) :
  Calls Tryd.prog 155 [v0p, v1p, (.int .i64 a_top)].toArray w fun e w' => ∃ v, e = .returned v ∧ (∃ u0 u1, v = .tuple #[u0, u1] ∧ VRep (RSlice RSpan) w' M r.1 u0 ∧ VRep RBool w' M r.2 u1) ∧ BX No w w' := by
 have hC : Cx No w M w M := Cx.start hO (fun _ e => e.elim)
 refine walk (N := 15) Tryd.func155 Z Tryd.ntmps155 Z (cw_seq (cw_region (lw_op Z Z Z (ow_assign Z Z (lw_op Z Z Z (ow_assign Z Z (lw_nil (ew_then (cw_seq (cw_region (lw_op Z Z Z (ow_move Z Z (lw_op Z Z Z (ow_move Z Z (lw_op Z Z Z (ow_move Z Z ?_))))))))))))))))
 replace h := bind_some h
 obtain ⟨x1, hx1, h⟩ := h
 refine lw_op Z Z Z (ow_call Z Z Tryd.call169 (w_impl_sweepSpans__impl_inBoth hG hC.old h0 h1 hx1) fun v1 w1 hv1 => ?_)
 obtain ⟨hv1, hb1⟩ := hv1
 have hl1 := Le.no M hb1
 have hC1 := hC.no hb1
 replace h := bind_some h
 obtain ⟨x2, hx2, h⟩ := h
 refine lw_op Z Z Z (ow_call Z Z Tryd.call181 (w_impl_limitSpans (hG.mono hl1) hC1.old hv1 hx2) fun v2 w2 hv2 => ?_)
 obtain ⟨⟨v3, v4, rfl, hv3, hv4⟩, hb2⟩ := hv2
 have hC2 := hC1.no hb2
 obtain ⟨bb1, hbb1, rfl⟩ := vbool_ex hv4
 refine lw_op Z Z Z (ow_extract Z Z Z (lw_op Z Z Z (ow_extract Z Z Z (lw_op Z Z Z (ow_assign Z Z (lw_op Z Z Z (ow_assign Z Z (lw_nil (ew_then (cw_ret ?_))))))))))
 obtain rfl := sj h
 exact ew_ret (res2 Z (.tmp Z) (.tmp Z)) ⟨_, Z, ⟨_, _, Z, (VRep.mono hC2.back hv3), ((vbool_of hbb1))⟩, hC2.bx⟩

theorem w_impl_Test_spans {w : World} {M : Nat → Prop} (hG : ARep (RArr 4 RShape) w M shapes ⟨0, 0, none⟩) (hO : ∀ b, M b → b < w.heap.size) {v0p : Value} {a_t : Test} (h0 : VRep RTest w M a_t v0p) {r : (List Span)} (h : F.impl_Test_spans a_t = some r) :
  Calls Tryd.prog 160 [v0p].toArray w fun e w' => ∃ v, e = .returned v ∧ VRep (RSlice RSpan) w' M r v ∧ BX No w w' := by
 obtain ⟨i120, hi120, hz120, hs120, hy120⟩ := info120
 have hC : Cx No w M w M := Cx.start hO (fun _ e => e.elim)
 refine walk (N := 40) Tryd.func160 Z Tryd.ntmps160 Z (cw_seq (cw_region (lw_op Z Z Z (ow_box (R := RTest) Z Z h0 hC fun p1 w1 hp1 hb1 hl1 hC1 => lw_op Z Z Z (ow_assign Z Z (lw_nil (ew_then (cw_seq (cw_seq (cw_region (lw_op Z Z Z (ow_fieldAddr Z Z Tryd.underlying128 Z (Tryd.sizeOf4 _) (lw_op Z Z Z (ow_load (R := RBool) Z Z (hp1.fld fld_Test_Not) (Tryd.sizeOf4 _) (Tryd.isAgg4 _) fun v1 hv1 => ?_))))))))))))))
 obtain ⟨bb1, hbb1, rfl⟩ := vbool_ex hv1
 refine lw_op Z Z Z (ow_not Z Z (lw_nil (ew_then ?_)))
 replace h := cond_some h
 rcases h with ⟨hc1, h⟩ | ⟨hc1, h⟩
 ·
  obtain rfl := hbb1.trans hc1
  refine cw_false Z (cw_skip (ew_then (cw_seq (cw_region (lw_op Z Z Z (ow_assign Z Z (lw_nil (ew_then (cw_seq (cw_seq (cw_region (lw_op Z Z Z (ow_fieldAddr Z Z Tryd.underlying128 Z (Tryd.sizeOf3 _) (lw_op Z Z Z (ow_load (R := RInt) Z Z (hp1.fld fld_Test_Lo) (Tryd.sizeOf3 _) (Tryd.isAgg3 _) fun v2 hv2 => ?_)))))))))))))))
  obtain rfl := vint_eq hv2
  refine lw_op Z Z Z (ow_gtr Z Z Z fun bb2 hbb2 => lw_nil (ew_then ?_))
  replace h := cond_some h
  rcases h with ⟨hc2, h⟩ | ⟨hc2, h⟩
  ·
   obtain rfl := hbb2.trans hc2
   refine cw_true Z (cw_region (lw_op Z Z Z (ow_move Z Z (lw_op Z Z Z (ow_fieldAddr Z Z Tryd.underlying128 Z (Tryd.sizeOf3 _) (lw_op Z Z Z (ow_load (R := RInt) Z Z (hp1.fld fld_Test_Lo) (Tryd.sizeOf3 _) (Tryd.isAgg3 _) fun v3 hv3 => ?_)))))))
   obtain rfl := vint_eq hv3
   refine lw_op Z Z Z (ow_sub Z Z Z (lw_op Z Z Z (ow_build (v := .agg #[(Zv 0), (Zv (W (a_t.Lo - 1)))]) Z Z (by kernel_rfl) ?_)))
   have hw1 : VRep RSpan w1 M ({ Lo := 0, Hi := (W (a_t.Lo - 1)) } : Span) (.agg #[(Zv 0), (Zv (W (a_t.Lo - 1)))]) := shut_Span
   refine lw_op Z Z Z (ow_buildSlice (R := RSpan) (xs := [({ Lo := 0, Hi := (W (a_t.Lo - 1)) } : Span)]) (cs := #[(Zv 0), (Zv (W (a_t.Lo - 1)))]) (e := 120) Z Z (by kernel_rfl) Z Z ⟨_, _, Z, hw1.cells, Z⟩ hC1 fun p2 w2 hw2 hb2 hl2 hC2 => ?_)
   replace h := bind_some h
   obtain ⟨z1, hz1, h⟩ := h
   refine lw_op Z Z Z (ow_append (R := RSpan) Z Z Z Z Tryd.underlying121 hi120 hz120 hs120 hy120 Z Z Z Z ownrow_nil hw2 hz1 hC2 fun v4 w3 M1 hr1 hb3 hl3 hC3 hM1 hat1 => lw_op Z Z Z (ow_assign Z Z (lw_nil (ew_then (cw_seq (cw_seq (cw_region (lw_op Z Z Z (ow_fieldAddr Z Z Tryd.underlying128 Z (Tryd.sizeOf3 _) (lw_op Z Z Z (ow_load (R := RInt) Z Z (ARep.mono (hl2.trans hl3) (hp1.fld fld_Test_Field)) (Tryd.sizeOf3 _) (Tryd.isAgg3 _) fun v5 hv5 => ?_)))))))))))
   obtain rfl := vint_eq hv5
   replace h := bind_some h
   obtain ⟨x1, hx1, h⟩ := h
   have lz1 := ((hl1.trans hl2).trans hl3)
   refine lw_op Z Z Z (ow_call Z Z Tryd.call142 (w_impl_FieldTop (hG.mono lz1) hC3.old hx1) fun v6 w4 hv6 => ?_)
   obtain ⟨hv6, hb4⟩ := hv6
   have hl4 := Le.no M1 hb4
   have hC4 := hC3.no hb4
   have hr2 := hr1.no hb4
   obtain rfl := vint_eq hv6
   refine lw_op Z Z Z (ow_assign Z Z (lw_nil (ew_then (cw_seq (cw_region (lw_op Z Z Z (ow_fieldAddr Z Z Tryd.underlying128 Z (Tryd.sizeOf3 _) ?_)))))))
   have lz2 := ((hl2.trans hl3).trans hl4)
   refine lw_op Z Z Z (ow_load (R := RInt) Z Z (ARep.mono lz2 (hp1.fld fld_Test_Hi)) (Tryd.sizeOf3 _) (Tryd.isAgg3 _) fun v7 hv7 => ?_)
   obtain rfl := vint_eq hv7
   refine lw_op Z Z Z (ow_move Z Z (lw_op Z Z Z (ow_lss Z Z Z fun bb3 hbb3 => lw_nil (ew_then ?_))))
   replace h := cond_some h
   rcases h with ⟨hc3, h⟩ | ⟨hc3, h⟩
   ·
    obtain rfl := hbb3.trans hc3
    refine cw_true Z (cw_region (lw_op Z Z Z (ow_move Z Z (lw_op Z Z Z (ow_fieldAddr Z Z Tryd.underlying128 Z (Tryd.sizeOf3 _) (lw_op Z Z Z (ow_load (R := RInt) Z Z (ARep.mono lz2 (hp1.fld fld_Test_Hi)) (Tryd.sizeOf3 _) (Tryd.isAgg3 _) fun v8 hv8 => ?_)))))))
    obtain rfl := vint_eq hv8
    refine lw_op Z Z Z (ow_add Z Z Z (lw_op Z Z Z (ow_move Z Z (lw_op Z Z Z (ow_build (v := .agg #[(Zv (W (a_t.Hi + 1))), (Zv x1)]) Z Z (by kernel_rfl) ?_)))))
    have hw3 : VRep RSpan w4 M1 ({ Lo := (W (a_t.Hi + 1)), Hi := x1 } : Span) (.agg #[(Zv (W (a_t.Hi + 1))), (Zv x1)]) := shut_Span
    refine lw_op Z Z Z (ow_buildSlice (R := RSpan) (xs := [({ Lo := (W (a_t.Hi + 1)), Hi := x1 } : Span)]) (cs := #[(Zv (W (a_t.Hi + 1))), (Zv x1)]) (e := 120) Z Z (by kernel_rfl) Z Z ⟨_, _, Z, hw3.cells, Z⟩ hC4 fun p3 w5 hw4 hb5 hl5 hC5 => ?_)
    have hr3 := hr2.no hb5
    replace h := bind_some h
    obtain ⟨z2, hz2, h⟩ := h
    refine lw_op Z Z Z (ow_append (R := RSpan) Z Z Z Z Tryd.underlying121 hi120 hz120 hs120 hy120 Z Z Z Z hr3 hw4 hz2 hC5 fun v9 w6 M2 hr4 hb6 hl6 hC6 hM2 hat2 => lw_op Z Z Z (ow_assign Z Z (lw_nil (ew_then (cw_seq (cw_region (lw_op Z Z Z (ow_move Z Z (lw_op Z Z Z (ow_assign Z Z (lw_nil (ew_then (cw_ret ?_)))))))))))))
    obtain rfl := sj h
    exact ew_ret (res1 Z (.tmp Z)) ⟨_, Z, (hr4.freezeBack hC6 hO), hC6.bx⟩
   ·
    obtain rfl := hbb3.trans hc3
    refine cw_false Z (cw_skip (ew_then (cw_seq (cw_region (lw_op Z Z Z (ow_move Z Z (lw_op Z Z Z (ow_assign Z Z (lw_nil (ew_then (cw_ret ?_)))))))))))
    obtain rfl := sj h
    exact ew_ret (res1 Z (.tmp Z)) ⟨_, Z, (hr2.freezeBack hC4 hO), hC4.bx⟩
  ·
   obtain rfl := hbb2.trans hc2
   refine cw_false Z (cw_skip (ew_then (cw_seq (cw_seq (cw_region (lw_op Z Z Z (ow_fieldAddr Z Z Tryd.underlying128 Z (Tryd.sizeOf3 _) (lw_op Z Z Z (ow_load (R := RInt) Z Z (hp1.fld fld_Test_Field) (Tryd.sizeOf3 _) (Tryd.isAgg3 _) fun v10 hv10 => ?_)))))))))
   obtain rfl := vint_eq hv10
   replace h := bind_some h
   obtain ⟨x2, hx2, h⟩ := h
   refine lw_op Z Z Z (ow_call Z Z Tryd.call142 (w_impl_FieldTop (hG.mono hl1) hC1.old hx2) fun v11 w7 hv11 => ?_)
   obtain ⟨hv11, hb7⟩ := hv11
   have hl7 := Le.no M hb7
   have hC7 := hC1.no hb7
   obtain rfl := vint_eq hv11
   refine lw_op Z Z Z (ow_assign Z Z (lw_nil (ew_then (cw_seq (cw_region (lw_op Z Z Z (ow_fieldAddr Z Z Tryd.underlying128 Z (Tryd.sizeOf3 _) (lw_op Z Z Z (ow_load (R := RInt) Z Z (ARep.mono hl7 (hp1.fld fld_Test_Hi)) (Tryd.sizeOf3 _) (Tryd.isAgg3 _) fun v12 hv12 => ?_)))))))))
   obtain rfl := vint_eq hv12
   refine lw_op Z Z Z (ow_move Z Z (lw_op Z Z Z (ow_lss Z Z Z fun bb4 hbb4 => lw_nil (ew_then ?_))))
   replace h := cond_some h
   rcases h with ⟨hc4, h⟩ | ⟨hc4, h⟩
   ·
    obtain rfl := hbb4.trans hc4
    refine cw_true Z (cw_region (lw_op Z Z Z (ow_move Z Z (lw_op Z Z Z (ow_fieldAddr Z Z Tryd.underlying128 Z (Tryd.sizeOf3 _) (lw_op Z Z Z (ow_load (R := RInt) Z Z (ARep.mono hl7 (hp1.fld fld_Test_Hi)) (Tryd.sizeOf3 _) (Tryd.isAgg3 _) fun v13 hv13 => ?_)))))))
    obtain rfl := vint_eq hv13
    refine lw_op Z Z Z (ow_add Z Z Z (lw_op Z Z Z (ow_move Z Z (lw_op Z Z Z (ow_build (v := .agg #[(Zv (W (a_t.Hi + 1))), (Zv x2)]) Z Z (by kernel_rfl) ?_)))))
    have hw5 : VRep RSpan w7 M ({ Lo := (W (a_t.Hi + 1)), Hi := x2 } : Span) (.agg #[(Zv (W (a_t.Hi + 1))), (Zv x2)]) := shut_Span
    refine lw_op Z Z Z (ow_buildSlice (R := RSpan) (xs := [({ Lo := (W (a_t.Hi + 1)), Hi := x2 } : Span)]) (cs := #[(Zv (W (a_t.Hi + 1))), (Zv x2)]) (e := 120) Z Z (by kernel_rfl) Z Z ⟨_, _, Z, hw5.cells, Z⟩ hC7 fun p4 w8 hw6 hb8 hl8 hC8 => ?_)
    replace h := bind_some h
    obtain ⟨z3, hz3, h⟩ := h
    refine lw_op Z Z Z (ow_append (R := RSpan) Z Z Z Z Tryd.underlying121 hi120 hz120 hs120 hy120 Z Z Z Z ownrow_nil hw6 hz3 hC8 fun v14 w9 M3 hr5 hb9 hl9 hC9 hM3 hat3 => lw_op Z Z Z (ow_assign Z Z (lw_nil (ew_then (cw_seq (cw_region (lw_op Z Z Z (ow_move Z Z (lw_op Z Z Z (ow_assign Z Z (lw_nil (ew_then (cw_ret ?_)))))))))))))
    obtain rfl := sj h
    exact ew_ret (res1 Z (.tmp Z)) ⟨_, Z, (hr5.freezeBack hC9 hO), hC9.bx⟩
   ·
    obtain rfl := hbb4.trans hc4
    refine cw_false Z (cw_skip (ew_then (cw_seq (cw_region (lw_op Z Z Z (ow_move Z Z (lw_op Z Z Z (ow_assign Z Z (lw_nil (ew_then (cw_ret ?_)))))))))))
    obtain rfl := sj h
    exact ew_ret (res1 Z (.tmp Z)) ⟨_, Z, (VRep.mono hC7.back (VRep.mono hl7 (vslice_nil (R := RSpan) (w := w1) (M := M)))), hC7.bx⟩
 ·
  obtain rfl := hbb1.trans hc1
  refine cw_true Z (cw_seq (cw_region (lw_op Z Z Z (ow_fieldAddr Z Z Tryd.underlying128 Z (Tryd.sizeOf3 _) (lw_op Z Z Z (ow_load (R := RInt) Z Z (hp1.fld fld_Test_Lo) (Tryd.sizeOf3 _) (Tryd.isAgg3 _) fun v15 hv15 => ?_))))))
  obtain rfl := vint_eq hv15
  refine lw_op Z Z Z (ow_fieldAddr Z Z Tryd.underlying128 Z (Tryd.sizeOf3 _) (lw_op Z Z Z (ow_load (R := RInt) Z Z (hp1.fld fld_Test_Hi) (Tryd.sizeOf3 _) (Tryd.isAgg3 _) fun v16 hv16 => ?_)))
  obtain rfl := vint_eq hv16
  refine lw_op Z Z Z (ow_build (v := .agg #[(Zv a_t.Lo), (Zv a_t.Hi)]) Z Z (by kernel_rfl) ?_)
  have hw7 : VRep RSpan w1 M ({ Lo := a_t.Lo, Hi := a_t.Hi } : Span) (.agg #[(Zv a_t.Lo), (Zv a_t.Hi)]) := shut_Span
  refine lw_op Z Z Z (ow_buildSlice (R := RSpan) (xs := [({ Lo := a_t.Lo, Hi := a_t.Hi } : Span)]) (cs := #[(Zv a_t.Lo), (Zv a_t.Hi)]) (e := 120) Z Z (by kernel_rfl) Z Z ⟨_, _, Z, hw7.cells, Z⟩ hC1 fun p5 w10 hw8 hb10 hl10 hC10 => lw_op Z Z Z (ow_assign Z Z (lw_nil (ew_then (cw_ret (ew_thenR ?_))))))
  obtain rfl := sj h
  exact ew_ret (res1 Z (.tmp Z)) ⟨_, Z, (VRep.mono hC10.back hw8), hC10.bx⟩


end Go.PF
