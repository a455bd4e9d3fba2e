/- The walks; no condition. -/
import Derived.Test.YtnleamfkpjnfoaaDoorProg
import Derived.Test.YtnleamfkpjnfoaaDoorWk2
import Derived.Test.YtnleamfkpjnfoaaDoorPFNew
set_option maxRecDepth 100000
set_option maxHeartbeats 4000000
namespace Go.PF
open Go Go.RowKit Go.Proofs

theorem w_spec_SpansOf {w : World} {M : Nat → Prop} (hG : ARep (RArr 4 RShape) w M shapes ⟨0, 0, none⟩) (hO : ∀ b, M b → b < w.heap.size) {v0p : Value} {a_list : List Span} (h0 : VRep (RSlice RSpan) w M a_list v0p) {a_top : Int} {r : (List Span)} (h : F.spec_SpansOf a_list a_top = some r) :
  Calls Tryd.prog 112 [v0p, (.int .i64 a_top)].toArray w fun e w' => ∃ v, e = .returned v ∧ VRep (RSlice RSpan) w' M r v ∧ BX No w w' := by
 have hC : Cx No w M w M := Cx.start hO (fun _ e => e.elim)
 refine walk (N := 53) Tryd.func112 rfl Tryd.ntmps112 rfl ?_
 refine cw_seq (cw_region (lw_op rfl rfl rfl (ow_assign rfl rfl ?_)))
 refine lw_nil (ew_then (cw_seq (cw_region (lw_op rfl rfl rfl (ow_buildSlice0I (R := RSpan) (e := 76) rfl (by kernel_rfl) hC fun p1 w1 hw1 hb1 hl1 hC1 => ?_)))))
 refine lw_op rfl rfl rfl (ow_assign rfl rfl ?_)
 refine lw_nil (ew_then (cw_seq (cw_seq (cw_region (lw_op rfl rfl rfl (ow_move rfl rfl ?_))))))
 replace h := bind_some h
 obtain ⟨x1, hx1, h⟩ := h
 refine lw_op rfl rfl rfl (ow_call rfl rfl Tryd.call82 (w_spec_l1In (hG.mono hl1) hC1.old hx1) fun v1 w2 hv1 => ?_)
 obtain ⟨hv1, hb2⟩ := hv1
 have hl2 := Le.no M hb2
 have hC2 := hC1.no hb2
 obtain rfl := vbool_eq hv1
 refine lw_op rfl rfl rfl (ow_not rfl rfl ?_)
 refine lw_op rfl rfl rfl (ow_move rfl rfl ?_)
 replace h := cond_some h
 rcases h with ⟨hc1, h⟩ | ⟨hc1, h⟩
 ·
  subst hc1
  refine lw_on rfl rfl rfl rfl rfl rfl (ow_move rfl rfl ?_)
  refine lw_on rfl rfl rfl rfl rfl rfl (ow_len rfl rfl (VRep.mono (hl1.trans hl2) h0) Tryd.underlying58 rfl ?_)
  refine lw_on rfl rfl rfl rfl rfl rfl (ow_gtr rfl rfl rfl fun bb1 hbb1 => ?_)
  refine lw_op rfl rfl rfl (ow_pickF rfl rfl rfl ?_)
  refine lw_nil (ew_then ?_)
  replace h := cond_some h
  rcases h with ⟨hc2, h⟩ | ⟨hc2, h⟩
  ·
   obtain rfl := hbb1.trans hc2
   refine cw_true rfl ?_
   refine cw_seq (cw_region (lw_op rfl rfl rfl (ow_move rfl rfl ?_)))
   refine lw_op rfl rfl rfl (ow_assign rfl rfl ?_)
   refine lw_nil (ew_then (cw_ret (ew_thenR ?_)))
   obtain rfl := Option.some.inj h
   exact ew_ret (res1 rfl (.tmp rfl)) ⟨_, rfl, (VRep.mono hC2.back (VRep.mono hl2 hw1)), hC2.bx⟩
  ·
   obtain rfl := hbb1.trans hc2
   refine cw_false rfl ?_
   refine cw_skip (ew_then (cw_seq (cw_seq (cw_region (lw_op rfl rfl rfl (ow_assign rfl rfl ?_))))))
   refine lw_nil (ew_then ?_)
   replace h := bind_some h
   obtain ⟨lr1, hlr1, h⟩ := h
   refine cw_for hlr1 (fun s a w' => ∃ (M' : Nat → Prop) (v0c : Value), Fits 53 [(0, v0p), (1, (.int .i64 a_top)), (5, v0c), (6, (.int .i64 s.2))] a ∧ Le w2 M w' M' ∧ Cx No w M w' M' ∧ VRep (RSlice RSpan) w' M' s.1 v0c) ?_ ?_ ?_
   ·
    intro a ha
    exact ⟨M, (.slice (some p1) 0 0), ha.sub ⟨rfl, rfl, rfl, rfl, trivial⟩, Le.refl _ _, hC2, (VRep.mono hl2 hw1)⟩
   ·
    rintro ⟨y1, k1⟩ a w3 sr1 ⟨M1, v2, hF1, hl3, hC3, hw2⟩ hb3 hR1
    refine cw_at (E := [(0, v0p), (1, (.int .i64 a_top)), (5, v2), (6, (.int .i64 k1))]) hF1 ?_
    refine cw_seq (cw_seq (cw_region (lw_op rfl rfl rfl (ow_move rfl rfl ?_))))
    refine lw_op rfl rfl rfl (ow_move rfl rfl ?_)
    refine lw_op rfl rfl rfl (ow_len rfl rfl (VRep.mono ((hl1.trans hl2).trans hl3) h0) Tryd.underlying58 rfl ?_)
    refine lw_op rfl rfl rfl (ow_lss rfl rfl rfl fun bb2 hbb2 => ?_)
    refine lw_nil (ew_then ?_)
    replace hb3 := cond_some hb3
    rcases hb3 with ⟨hc3, hb3⟩ | ⟨hc3, hb3⟩
    ·
     obtain rfl := hbb2.trans hc3
     refine cw_true rfl ?_
     refine cw_skip (ew_then (cw_seq (cw_block ?_)))
     refine cw_seq (cw_seq ?_)
     replace hb3 := bind_some hb3
     obtain ⟨x2, hx2, hb3⟩ := hb3
     replace hb3 := bind_some hb3
     obtain ⟨x3, hx3, hb3⟩ := hb3
     replace hb3 := cond_some hb3
     rcases hb3 with ⟨hc4, hb3⟩ | ⟨hc4, hb3⟩
     ·
      subst hc4
      refine cw_sub (E' := [(0, v0p), (1, (.int .i64 a_top)), (5, v2), (6, (.int .i64 k1))]) ⟨rfl, rfl, rfl, rfl, trivial⟩ ?_
      refine cw_drawQ 19 [PV (RSlice RSpan) M1 a_list, PEq (.int .i64 k1), PA RSpan M1 x2, PA RInt M1 x2.Lo, PEq (.int .i64 x2.Lo), PV (RSlice RSpan) M1 a_list, PEq (.int .i64 k1), PA RSpan M1 x2, PA RInt M1 x2.Hi, PEq (.int .i64 x2.Hi), PEq (.bool true), PEq (.bool false), PEq (.bool false), PV (RSlice RSpan) M1 a_list, PEq (.int .i64 k1), PA RSpan M1 x2, PA RInt M1 x2.Hi, PEq (.int .i64 x2.Hi), PEq (.int .i64 a_top)] (by kernel_rfl) rfl (by kernel_rfl) ⟨PV.mono _ _ _, PEq.mono _, PA.mono _ _ _, PA.mono _ _ _, PEq.mono _, PV.mono _ _ _, PEq.mono _, PA.mono _ _ _, PA.mono _ _ _, PEq.mono _, PEq.mono _, PEq.mono _, PEq.mono _, PV.mono _ _ _, PEq.mono _, PA.mono _ _ _, PA.mono _ _ _, PEq.mono _, PEq.mono _, trivial⟩ ⟨?_, ?_, ?_, ?_, ?_, ?_, ?_, ?_, ?_, ?_, ?_, ?_, ?_, ?_, ?_, ?_, ?_, ?_, ?_, trivial⟩ ?_
      ·
       intro w5 D hS1 hd1
       have hl5 := Le.no M1 hS1
       have hC5 := hC3.no hS1
       refine dg_sub (E' := [(0, v0p)]) ⟨rfl, trivial⟩ ?_
       refine dg_plain rfl (ow_move rfl rfl ?_)
       exact ⟨BX.refl _ _, (VRep.mono (((hl1.trans hl2).trans hl3).trans hl5) h0)⟩
      ·
       intro w6 D hS2 hd2
       have hl6 := Le.no M1 hS2
       have hC6 := hC3.no hS2
       refine dg_sub (E' := [(6, (.int .i64 k1))]) ⟨rfl, trivial⟩ ?_
       refine dg_plain rfl (ow_move rfl rfl ?_)
       exact ⟨BX.refl _ _, rfl⟩
      ·
       intro w7 D hS3 hd3
       have hl7 := Le.no M1 hS3
       have hC7 := hC3.no hS3
       have hd3 : PV (RSlice RSpan) M1 a_list (D 0) w7 ∧ PEq (.int .i64 k1) (D 1) w7 ∧ True := hd3
       obtain ⟨d1, d2, -⟩ := hd3
       obtain ⟨v8, hq1⟩ : ∃ v, (D 0) = v := ⟨_, rfl⟩
       rw [hq1] at d1
       refine dg_sub (E' := [(23, v8), (24, (.int .i64 k1))]) ⟨(congrArg some hq1), (congrArg some d2), trivial⟩ ?_
       refine dg_plain rfl (ow_indexSlice (R := RSpan) rfl rfl rfl d1 Tryd.underlying58 (Tryd.sizeOf76 _) hx2 fun p5 hp5 => ?_)
       exact ⟨BX.refl _ _, ⟨_, rfl, hp5⟩⟩
      ·
       intro w8 D hS4 hd4
       have hl8 := Le.no M1 hS4
       have hC8 := hC3.no hS4
       have hd4 : PA RSpan M1 x2 (D 2) w8 ∧ True := hd4
       obtain ⟨d3, -⟩ := hd4
       obtain ⟨p6, e1, ha1⟩ := d3
       refine dg_sub (E' := [(25, (.pointer (some p6)))]) ⟨(congrArg some e1), trivial⟩ ?_
       refine dg_plain rfl (ow_fieldAddr rfl rfl Tryd.underlying76 rfl (Tryd.sizeOf3 _) ?_)
       exact ⟨BX.refl _ _, ⟨_, rfl, (ha1.fld fld_Span_Lo)⟩⟩
      ·
       intro w9 D hS5 hd5
       have hl9 := Le.no M1 hS5
       have hC9 := hC3.no hS5
       have hd5 : PA RInt M1 x2.Lo (D 3) w9 ∧ True := hd5
       obtain ⟨d4, -⟩ := hd5
       obtain ⟨p7, e2, ha2⟩ := d4
       refine dg_sub (E' := [(26, (.pointer (some p7)))]) ⟨(congrArg some e2), trivial⟩ ?_
       refine dg_plain rfl (ow_load (R := RInt) rfl rfl ha2 (Tryd.sizeOf3 _) (Tryd.isAgg3 _) fun v9 hv9 => ?_)
       obtain rfl := vint_eq hv9
       exact ⟨BX.refl _ _, rfl⟩
      ·
       intro w10 D hS6 hd6
       have hl10 := Le.no M1 hS6
       have hC10 := hC3.no hS6
       refine dg_sub (E' := [(0, v0p)]) ⟨rfl, trivial⟩ ?_
       refine dg_plain rfl (ow_move rfl rfl ?_)
       exact ⟨BX.refl _ _, (VRep.mono (((hl1.trans hl2).trans hl3).trans hl10) h0)⟩
      ·
       intro w11 D hS7 hd7
       have hl11 := Le.no M1 hS7
       have hC11 := hC3.no hS7
       refine dg_sub (E' := [(6, (.int .i64 k1))]) ⟨rfl, trivial⟩ ?_
       refine dg_plain rfl (ow_move rfl rfl ?_)
       exact ⟨BX.refl _ _, rfl⟩
      ·
       intro w12 D hS8 hd8
       have hl12 := Le.no M1 hS8
       have hC12 := hC3.no hS8
       have hd8 : PV (RSlice RSpan) M1 a_list (D 5) w12 ∧ PEq (.int .i64 k1) (D 6) w12 ∧ True := hd8
       obtain ⟨d5, d6, -⟩ := hd8
       obtain ⟨v10, hq2⟩ : ∃ v, (D 5) = v := ⟨_, rfl⟩
       rw [hq2] at d5
       refine dg_sub (E' := [(28, v10), (29, (.int .i64 k1))]) ⟨(congrArg some hq2), (congrArg some d6), trivial⟩ ?_
       refine dg_plain rfl (ow_indexSlice (R := RSpan) rfl rfl rfl d5 Tryd.underlying58 (Tryd.sizeOf76 _) hx2 fun p8 hp8 => ?_)
       exact ⟨BX.refl _ _, ⟨_, rfl, hp8⟩⟩
      ·
       intro w13 D hS9 hd9
       have hl13 := Le.no M1 hS9
       have hC13 := hC3.no hS9
       have hd9 : PA RSpan M1 x2 (D 7) w13 ∧ True := hd9
       obtain ⟨d7, -⟩ := hd9
       obtain ⟨p9, e3, ha3⟩ := d7
       refine dg_sub (E' := [(30, (.pointer (some p9)))]) ⟨(congrArg some e3), trivial⟩ ?_
       refine dg_plain rfl (ow_fieldAddr rfl rfl Tryd.underlying76 rfl (Tryd.sizeOf3 _) ?_)
       exact ⟨BX.refl _ _, ⟨_, rfl, (ha3.fld fld_Span_Hi)⟩⟩
      ·
       intro w14 D hS10 hd10
       have hl14 := Le.no M1 hS10
       have hC14 := hC3.no hS10
       have hd10 : PA RInt M1 x2.Hi (D 8) w14 ∧ True := hd10
       obtain ⟨d8, -⟩ := hd10
       obtain ⟨p10, e4, ha4⟩ := d8
       refine dg_sub (E' := [(31, (.pointer (some p10)))]) ⟨(congrArg some e4), trivial⟩ ?_
       refine dg_plain rfl (ow_load (R := RInt) rfl rfl ha4 (Tryd.sizeOf3 _) (Tryd.isAgg3 _) fun v11 hv11 => ?_)
       obtain rfl := vint_eq hv11
       exact ⟨BX.refl _ _, rfl⟩
      ·
       intro w15 D hS11 hd11
       have hl15 := Le.no M1 hS11
       have hC15 := hC3.no hS11
       have hd11 : PEq (.int .i64 x2.Lo) (D 4) w15 ∧ PEq (.int .i64 x2.Hi) (D 9) w15 ∧ True := hd11
       obtain ⟨d9, d10, -⟩ := hd11
       refine dg_sub (E' := [(27, (.int .i64 x2.Lo)), (32, (.int .i64 x2.Hi))]) ⟨(congrArg some d9), (congrArg some d10), trivial⟩ ?_
       refine dg_plain rfl (ow_call rfl rfl Tryd.call82 (w_spec_l1In (hG.mono (((hl1.trans hl2).trans hl3).trans hl15)) hC15.old hx3) fun v12 w16 hv12 => ?_)
       obtain ⟨hv12, hb5⟩ := hv12
       have hl16 := Le.no M1 hb5
       have hC16 := hC15.no hb5
       obtain rfl := vbool_eq hv12
       exact ⟨hb5, rfl⟩
      ·
       intro w17 D hS12 hd12
       have hl17 := Le.no M1 hS12
       have hC17 := hC3.no hS12
       have hd12 : PEq (.bool true) (D 10) w17 ∧ True := hd12
       obtain ⟨d11, -⟩ := hd12
       refine dg_sub (E' := [(33, (.bool true))]) ⟨(congrArg some d11), trivial⟩ ?_
       refine dg_plain rfl (ow_not rfl rfl ?_)
       exact ⟨BX.refl _ _, rfl⟩
      ·
       intro w18 D hS13 hd13
       have hl18 := Le.no M1 hS13
       have hC18 := hC3.no hS13
       have hd13 : PEq (.bool false) (D 11) w18 ∧ PEq (.bool true) (D 10) w18 ∧ True := hd13
       obtain ⟨d12, d13, -⟩ := hd13
       refine dg_sub (E' := [(34, (.bool false))]) ⟨(congrArg some d12), trivial⟩ ?_
       refine dg_plain rfl (ow_move rfl rfl ?_)
       exact ⟨BX.refl _ _, rfl⟩
      ·
       intro w19 D hS14 hd14
       have hl19 := Le.no M1 hS14
       have hC19 := hC3.no hS14
       have hd14 : PEq (.bool false) (D 12) w19 ∧ True := hd14
       obtain ⟨d14, -⟩ := hd14
       refine dg_sub (E' := [(35, (.bool false)), (0, v0p)]) ⟨(congrArg some d14), rfl, trivial⟩ ?_
       refine dg_on rfl rfl rfl rfl (ow_move rfl rfl ?_)
       exact ⟨BX.refl _ _, (VRep.mono (((hl1.trans hl2).trans hl3).trans hl19) h0)⟩
      ·
       intro w20 D hS15 hd15
       have hl20 := Le.no M1 hS15
       have hC20 := hC3.no hS15
       have hd15 : PEq (.bool false) (D 12) w20 ∧ True := hd15
       obtain ⟨d15, -⟩ := hd15
       refine dg_sub (E' := [(35, (.bool false)), (6, (.int .i64 k1))]) ⟨(congrArg some d15), rfl, trivial⟩ ?_
       refine dg_on rfl rfl rfl rfl (ow_move rfl rfl ?_)
       exact ⟨BX.refl _ _, rfl⟩
      ·
       intro w21 D hS16 hd16
       have hl21 := Le.no M1 hS16
       have hC21 := hC3.no hS16
       have hd16 : PV (RSlice RSpan) M1 a_list (D 13) w21 ∧ PEq (.int .i64 k1) (D 14) w21 ∧ PEq (.bool false) (D 12) w21 ∧ True := hd16
       obtain ⟨d16, d17, d18, -⟩ := hd16
       obtain ⟨v13, hq3⟩ : ∃ v, (D 13) = v := ⟨_, rfl⟩
       rw [hq3] at d16
       refine dg_sub (E' := [(36, v13), (37, (.int .i64 k1)), (35, (.bool false))]) ⟨(congrArg some hq3), (congrArg some d17), (congrArg some d18), trivial⟩ ?_
       refine dg_on rfl rfl rfl rfl (ow_indexSlice (R := RSpan) rfl rfl rfl d16 Tryd.underlying58 (Tryd.sizeOf76 _) hx2 fun p11 hp11 => ?_)
       exact ⟨BX.refl _ _, ⟨_, rfl, hp11⟩⟩
      ·
       intro w22 D hS17 hd17
       have hl22 := Le.no M1 hS17
       have hC22 := hC3.no hS17
       have hd17 : PA RSpan M1 x2 (D 15) w22 ∧ PEq (.bool false) (D 12) w22 ∧ True := hd17
       obtain ⟨d19, d20, -⟩ := hd17
       obtain ⟨p12, e5, ha5⟩ := d19
       refine dg_sub (E' := [(38, (.pointer (some p12))), (35, (.bool false))]) ⟨(congrArg some e5), (congrArg some d20), trivial⟩ ?_
       refine dg_on rfl rfl rfl rfl (ow_fieldAddr rfl rfl Tryd.underlying76 rfl (Tryd.sizeOf3 _) ?_)
       exact ⟨BX.refl _ _, ⟨_, rfl, (ha5.fld fld_Span_Hi)⟩⟩
      ·
       intro w23 D hS18 hd18
       have hl23 := Le.no M1 hS18
       have hC23 := hC3.no hS18
       have hd18 : PA RInt M1 x2.Hi (D 16) w23 ∧ PEq (.bool false) (D 12) w23 ∧ True := hd18
       obtain ⟨d21, d22, -⟩ := hd18
       obtain ⟨p13, e6, ha6⟩ := d21
       refine dg_sub (E' := [(39, (.pointer (some p13))), (35, (.bool false))]) ⟨(congrArg some e6), (congrArg some d22), trivial⟩ ?_
       refine dg_on rfl rfl rfl rfl (ow_load (R := RInt) rfl rfl ha6 (Tryd.sizeOf3 _) (Tryd.isAgg3 _) fun v14 hv14 => ?_)
       obtain rfl := vint_eq hv14
       exact ⟨BX.refl _ _, rfl⟩
      ·
       intro w24 D hS19 hd19
       have hl24 := Le.no M1 hS19
       have hC24 := hC3.no hS19
       have hd19 : PEq (.bool false) (D 12) w24 ∧ True := hd19
       obtain ⟨d23, -⟩ := hd19
       refine dg_sub (E' := [(35, (.bool false)), (1, (.int .i64 a_top))]) ⟨(congrArg some d23), rfl, trivial⟩ ?_
       refine dg_on rfl rfl rfl rfl (ow_move rfl rfl ?_)
       exact ⟨BX.refl _ _, rfl⟩
      ·
       intro w25 D hS20 hd20
       have hd20 : PV (RSlice RSpan) M1 a_list (D 0) w25 ∧ PEq (.int .i64 k1) (D 1) w25 ∧ PA RSpan M1 x2 (D 2) w25 ∧ PA RInt M1 x2.Lo (D 3) w25 ∧ PEq (.int .i64 x2.Lo) (D 4) w25 ∧ PV (RSlice RSpan) M1 a_list (D 5) w25 ∧ PEq (.int .i64 k1) (D 6) w25 ∧ PA RSpan M1 x2 (D 7) w25 ∧ PA RInt M1 x2.Hi (D 8) w25 ∧ PEq (.int .i64 x2.Hi) (D 9) w25 ∧ PEq (.bool true) (D 10) w25 ∧ PEq (.bool false) (D 11) w25 ∧ PEq (.bool false) (D 12) w25 ∧ PV (RSlice RSpan) M1 a_list (D 13) w25 ∧ PEq (.int .i64 k1) (D 14) w25 ∧ PA RSpan M1 x2 (D 15) w25 ∧ PA RInt M1 x2.Hi (D 16) w25 ∧ PEq (.int .i64 x2.Hi) (D 17) w25 ∧ PEq (.int .i64 a_top) (D 18) w25 ∧ True := hd20
       obtain ⟨-, -, -, -, -, -, -, -, -, -, -, -, d36, -, -, -, -, d41, d42, -⟩ := hd20
       have hl25 := Le.no M1 hS20
       have hC25 := hC3.no hS20
       refine lw_sub (E' := [(35, (.bool false)), (40, (.int .i64 x2.Hi)), (41, (.int .i64 a_top)), (0, v0p), (1, (.int .i64 a_top)), (5, v2), (6, (.int .i64 k1))]) ⟨(congrArg some d36), (congrArg some d41), (congrArg some d42), rfl, rfl, rfl, rfl, trivial⟩ ?_
       replace hb3 := bind_some hb3
       obtain ⟨x4, hx4, hb3⟩ := hb3
       refine lw_on rfl rfl rfl rfl rfl rfl (ow_call rfl rfl Tryd.call82 (w_spec_l1In (hG.mono (((hl1.trans hl2).trans hl3).trans hl25)) hC25.old hx4) fun v15 w26 hv15 => ?_)
       obtain ⟨hv15, hb6⟩ := hv15
       have hl26 := Le.no M1 hb6
       have hC26 := hC25.no hb6
       obtain rfl := vbool_eq hv15
       refine lw_on rfl rfl rfl rfl rfl rfl (ow_not rfl rfl ?_)
       refine lw_op rfl rfl rfl (ow_pickF rfl rfl rfl ?_)
       refine lw_nil (ew_then ?_)
       replace hb3 := cond_some hb3
       rcases hb3 with ⟨hc5, hb3⟩ | ⟨hc5, hb3⟩
       ·
        subst hc5
        refine cw_false rfl ?_
        refine cw_skip (ew_then (cw_region (lw_op rfl rfl rfl (ow_move rfl rfl ?_))))
        refine lw_op rfl rfl rfl (ow_move rfl rfl ?_)
        refine lw_op rfl rfl rfl (ow_move rfl rfl ?_)
        refine lw_op rfl rfl rfl (ow_indexSlice (R := RSpan) rfl rfl rfl (VRep.mono ((((hl1.trans hl2).trans hl3).trans hl25).trans hl26) h0) Tryd.underlying58 (Tryd.sizeOf76 _) hx2 fun p14 hp14 => ?_)
        refine lw_op rfl rfl rfl (ow_load (R := RSpan) rfl rfl hp14 (Tryd.sizeOf76 _) (Tryd.isAgg76 _) fun v16 hv16 => ?_)
        replace hb3 := bind_some hb3
        obtain ⟨x5, hx5, hb3⟩ := hb3
        refine lw_op rfl rfl rfl (ow_call rfl rfl Tryd.call116 (w_spec_l1Add (hG.mono ((((hl1.trans hl2).trans hl3).trans hl25).trans hl26)) hC26.old (VRep.mono (hl25.trans hl26) hw2) hv16 hx5) fun v17 w27 hv17 => ?_)
        obtain ⟨hv17, hb7⟩ := hv17
        have hl27 := Le.no M1 hb7
        have hC27 := hC26.no hb7
        refine lw_op rfl rfl rfl (ow_assign rfl rfl ?_)
        refine lw_nil (ew_blockN ?_)
        refine ew_then (cw_region (lw_op rfl rfl rfl (ow_move rfl rfl ?_)))
        refine lw_op rfl rfl rfl (ow_add rfl rfl rfl ?_)
        refine lw_op rfl rfl rfl (ow_assign rfl rfl ?_)
        refine lw_nil (ew_nxt (x5, (W (k1 + 1))) hb3 fun a ha => ⟨M1, v17, ?_, (((hl3.trans hl25).trans hl26).trans hl27), hC27, hv17⟩)
        exact ha.sub ⟨rfl, rfl, rfl, rfl, trivial⟩
       ·
        subst hc5
        refine cw_true rfl ?_
        refine cw_seq (cw_region (lw_op rfl rfl rfl (ow_buildSlice0I (R := RSpan) (e := 76) rfl (by kernel_rfl) hC26 fun p15 w28 hw3 hb8 hl28 hC28 => ?_)))
        refine lw_op rfl rfl rfl (ow_assign rfl rfl ?_)
        refine lw_nil (ew_then (cw_ret (ew_thenR (ew_blockR ?_))))
        refine ew_thenR (ew_thenR (ew_blockR ?_))
        refine ew_brkR ?_
        refine ew_thenR ?_
        have e7 := hR1 _ (Option.some.inj hb3).symm
        subst e7
        obtain rfl := Option.some.inj h
        exact ew_ret (res1 rfl (.tmp rfl)) ⟨_, rfl, (VRep.mono hC28.back hw3), hC28.bx⟩
     ·
      subst hc4
      refine cw_sub (E' := [(0, v0p), (1, (.int .i64 a_top)), (5, v2), (6, (.int .i64 k1))]) ⟨rfl, rfl, rfl, rfl, trivial⟩ ?_
      refine cw_drawQ 19 [PV (RSlice RSpan) M1 a_list, PEq (.int .i64 k1), PA RSpan M1 x2, PA RInt M1 x2.Lo, PEq (.int .i64 x2.Lo), PV (RSlice RSpan) M1 a_list, PEq (.int .i64 k1), PA RSpan M1 x2, PA RInt M1 x2.Hi, PEq (.int .i64 x2.Hi), PEq (.bool false), PEq (.bool true), PEq (.bool true), PEq undef, PEq undef, PEq undef, PEq undef, PEq undef, PEq undef] (by kernel_rfl) rfl (by kernel_rfl) ⟨PV.mono _ _ _, PEq.mono _, PA.mono _ _ _, PA.mono _ _ _, PEq.mono _, PV.mono _ _ _, PEq.mono _, PA.mono _ _ _, PA.mono _ _ _, PEq.mono _, PEq.mono _, PEq.mono _, PEq.mono _, PEq.mono _, PEq.mono _, PEq.mono _, PEq.mono _, PEq.mono _, PEq.mono _, trivial⟩ ⟨?_, ?_, ?_, ?_, ?_, ?_, ?_, ?_, ?_, ?_, ?_, ?_, ?_, ?_, ?_, ?_, ?_, ?_, ?_, trivial⟩ ?_
      ·
       intro w29 D hS21 hd21
       have hl29 := Le.no M1 hS21
       have hC29 := hC3.no hS21
       refine dg_sub (E' := [(0, v0p)]) ⟨rfl, trivial⟩ ?_
       refine dg_plain rfl (ow_move rfl rfl ?_)
       exact ⟨BX.refl _ _, (VRep.mono (((hl1.trans hl2).trans hl3).trans hl29) h0)⟩
      ·
       intro w30 D hS22 hd22
       have hl30 := Le.no M1 hS22
       have hC30 := hC3.no hS22
       refine dg_sub (E' := [(6, (.int .i64 k1))]) ⟨rfl, trivial⟩ ?_
       refine dg_plain rfl (ow_move rfl rfl ?_)
       exact ⟨BX.refl _ _, rfl⟩
      ·
       intro w31 D hS23 hd23
       have hl31 := Le.no M1 hS23
       have hC31 := hC3.no hS23
       have hd23 : PV (RSlice RSpan) M1 a_list (D 0) w31 ∧ PEq (.int .i64 k1) (D 1) w31 ∧ True := hd23
       obtain ⟨d43, d44, -⟩ := hd23
       obtain ⟨v18, hq4⟩ : ∃ v, (D 0) = v := ⟨_, rfl⟩
       rw [hq4] at d43
       refine dg_sub (E' := [(23, v18), (24, (.int .i64 k1))]) ⟨(congrArg some hq4), (congrArg some d44), trivial⟩ ?_
       refine dg_plain rfl (ow_indexSlice (R := RSpan) rfl rfl rfl d43 Tryd.underlying58 (Tryd.sizeOf76 _) hx2 fun p16 hp16 => ?_)
       exact ⟨BX.refl _ _, ⟨_, rfl, hp16⟩⟩
      ·
       intro w32 D hS24 hd24
       have hl32 := Le.no M1 hS24
       have hC32 := hC3.no hS24
       have hd24 : PA RSpan M1 x2 (D 2) w32 ∧ True := hd24
       obtain ⟨d45, -⟩ := hd24
       obtain ⟨p17, e8, ha7⟩ := d45
       refine dg_sub (E' := [(25, (.pointer (some p17)))]) ⟨(congrArg some e8), trivial⟩ ?_
       refine dg_plain rfl (ow_fieldAddr rfl rfl Tryd.underlying76 rfl (Tryd.sizeOf3 _) ?_)
       exact ⟨BX.refl _ _, ⟨_, rfl, (ha7.fld fld_Span_Lo)⟩⟩
      ·
       intro w33 D hS25 hd25
       have hl33 := Le.no M1 hS25
       have hC33 := hC3.no hS25
       have hd25 : PA RInt M1 x2.Lo (D 3) w33 ∧ True := hd25
       obtain ⟨d46, -⟩ := hd25
       obtain ⟨p18, e9, ha8⟩ := d46
       refine dg_sub (E' := [(26, (.pointer (some p18)))]) ⟨(congrArg some e9), trivial⟩ ?_
       refine dg_plain rfl (ow_load (R := RInt) rfl rfl ha8 (Tryd.sizeOf3 _) (Tryd.isAgg3 _) fun v19 hv19 => ?_)
       obtain rfl := vint_eq hv19
       exact ⟨BX.refl _ _, rfl⟩
      ·
       intro w34 D hS26 hd26
       have hl34 := Le.no M1 hS26
       have hC34 := hC3.no hS26
       refine dg_sub (E' := [(0, v0p)]) ⟨rfl, trivial⟩ ?_
       refine dg_plain rfl (ow_move rfl rfl ?_)
       exact ⟨BX.refl _ _, (VRep.mono (((hl1.trans hl2).trans hl3).trans hl34) h0)⟩
      ·
       intro w35 D hS27 hd27
       have hl35 := Le.no M1 hS27
       have hC35 := hC3.no hS27
       refine dg_sub (E' := [(6, (.int .i64 k1))]) ⟨rfl, trivial⟩ ?_
       refine dg_plain rfl (ow_move rfl rfl ?_)
       exact ⟨BX.refl _ _, rfl⟩
      ·
       intro w36 D hS28 hd28
       have hl36 := Le.no M1 hS28
       have hC36 := hC3.no hS28
       have hd28 : PV (RSlice RSpan) M1 a_list (D 5) w36 ∧ PEq (.int .i64 k1) (D 6) w36 ∧ True := hd28
       obtain ⟨d47, d48, -⟩ := hd28
       obtain ⟨v20, hq5⟩ : ∃ v, (D 5) = v := ⟨_, rfl⟩
       rw [hq5] at d47
       refine dg_sub (E' := [(28, v20), (29, (.int .i64 k1))]) ⟨(congrArg some hq5), (congrArg some d48), trivial⟩ ?_
       refine dg_plain rfl (ow_indexSlice (R := RSpan) rfl rfl rfl d47 Tryd.underlying58 (Tryd.sizeOf76 _) hx2 fun p19 hp19 => ?_)
       exact ⟨BX.refl _ _, ⟨_, rfl, hp19⟩⟩
      ·
       intro w37 D hS29 hd29
       have hl37 := Le.no M1 hS29
       have hC37 := hC3.no hS29
       have hd29 : PA RSpan M1 x2 (D 7) w37 ∧ True := hd29
       obtain ⟨d49, -⟩ := hd29
       obtain ⟨p20, e10, ha9⟩ := d49
       refine dg_sub (E' := [(30, (.pointer (some p20)))]) ⟨(congrArg some e10), trivial⟩ ?_
       refine dg_plain rfl (ow_fieldAddr rfl rfl Tryd.underlying76 rfl (Tryd.sizeOf3 _) ?_)
       exact ⟨BX.refl _ _, ⟨_, rfl, (ha9.fld fld_Span_Hi)⟩⟩
      ·
       intro w38 D hS30 hd30
       have hl38 := Le.no M1 hS30
       have hC38 := hC3.no hS30
       have hd30 : PA RInt M1 x2.Hi (D 8) w38 ∧ True := hd30
       obtain ⟨d50, -⟩ := hd30
       obtain ⟨p21, e11, ha10⟩ := d50
       refine dg_sub (E' := [(31, (.pointer (some p21)))]) ⟨(congrArg some e11), trivial⟩ ?_
       refine dg_plain rfl (ow_load (R := RInt) rfl rfl ha10 (Tryd.sizeOf3 _) (Tryd.isAgg3 _) fun v21 hv21 => ?_)
       obtain rfl := vint_eq hv21
       exact ⟨BX.refl _ _, rfl⟩
      ·
       intro w39 D hS31 hd31
       have hl39 := Le.no M1 hS31
       have hC39 := hC3.no hS31
       have hd31 : PEq (.int .i64 x2.Lo) (D 4) w39 ∧ PEq (.int .i64 x2.Hi) (D 9) w39 ∧ True := hd31
       obtain ⟨d51, d52, -⟩ := hd31
       refine dg_sub (E' := [(27, (.int .i64 x2.Lo)), (32, (.int .i64 x2.Hi))]) ⟨(congrArg some d51), (congrArg some d52), trivial⟩ ?_
       refine dg_plain rfl (ow_call rfl rfl Tryd.call82 (w_spec_l1In (hG.mono (((hl1.trans hl2).trans hl3).trans hl39)) hC39.old hx3) fun v22 w40 hv22 => ?_)
       obtain ⟨hv22, hb9⟩ := hv22
       have hl40 := Le.no M1 hb9
       have hC40 := hC39.no hb9
       obtain rfl := vbool_eq hv22
       exact ⟨hb9, rfl⟩
      ·
       intro w41 D hS32 hd32
       have hl41 := Le.no M1 hS32
       have hC41 := hC3.no hS32
       have hd32 : PEq (.bool false) (D 10) w41 ∧ True := hd32
       obtain ⟨d53, -⟩ := hd32
       refine dg_sub (E' := [(33, (.bool false))]) ⟨(congrArg some d53), trivial⟩ ?_
       refine dg_plain rfl (ow_not rfl rfl ?_)
       exact ⟨BX.refl _ _, rfl⟩
      ·
       intro w42 D hS33 hd33
       have hl42 := Le.no M1 hS33
       have hC42 := hC3.no hS33
       have hd33 : PEq (.bool true) (D 11) w42 ∧ PEq (.bool false) (D 10) w42 ∧ True := hd33
       obtain ⟨d54, d55, -⟩ := hd33
       refine dg_sub (E' := [(34, (.bool true))]) ⟨(congrArg some d54), trivial⟩ ?_
       refine dg_plain rfl (ow_move rfl rfl ?_)
       exact ⟨BX.refl _ _, rfl⟩
      ·
       intro w43 D hS34 hd34
       have hl43 := Le.no M1 hS34
       have hC43 := hC3.no hS34
       have hd34 : PEq (.bool true) (D 12) w43 ∧ True := hd34
       obtain ⟨d56, -⟩ := hd34
       refine dg_sub (E' := [(35, (.bool true)), (0, v0p)]) ⟨(congrArg some d56), rfl, trivial⟩ ?_
       exact dg_off rfl rfl rfl rfl ⟨BX.refl _ _, rfl⟩
      ·
       intro w44 D hS35 hd35
       have hl44 := Le.no M1 hS35
       have hC44 := hC3.no hS35
       have hd35 : PEq (.bool true) (D 12) w44 ∧ True := hd35
       obtain ⟨d57, -⟩ := hd35
       refine dg_sub (E' := [(35, (.bool true)), (6, (.int .i64 k1))]) ⟨(congrArg some d57), rfl, trivial⟩ ?_
       exact dg_off rfl rfl rfl rfl ⟨BX.refl _ _, rfl⟩
      ·
       intro w45 D hS36 hd36
       have hl45 := Le.no M1 hS36
       have hC45 := hC3.no hS36
       have hd36 : PEq undef (D 13) w45 ∧ PEq undef (D 14) w45 ∧ PEq (.bool true) (D 12) w45 ∧ True := hd36
       obtain ⟨d58, d59, d60, -⟩ := hd36
       refine dg_sub (E' := [(36, undef), (37, undef), (35, (.bool true))]) ⟨(congrArg some d58), (congrArg some d59), (congrArg some d60), trivial⟩ ?_
       exact dg_off rfl rfl rfl rfl ⟨BX.refl _ _, rfl⟩
      ·
       intro w46 D hS37 hd37
       have hl46 := Le.no M1 hS37
       have hC46 := hC3.no hS37
       have hd37 : PEq undef (D 15) w46 ∧ PEq (.bool true) (D 12) w46 ∧ True := hd37
       obtain ⟨d61, d62, -⟩ := hd37
       refine dg_sub (E' := [(38, undef), (35, (.bool true))]) ⟨(congrArg some d61), (congrArg some d62), trivial⟩ ?_
       exact dg_off rfl rfl rfl rfl ⟨BX.refl _ _, rfl⟩
      ·
       intro w47 D hS38 hd38
       have hl47 := Le.no M1 hS38
       have hC47 := hC3.no hS38
       have hd38 : PEq undef (D 16) w47 ∧ PEq (.bool true) (D 12) w47 ∧ True := hd38
       obtain ⟨d63, d64, -⟩ := hd38
       refine dg_sub (E' := [(39, undef), (35, (.bool true))]) ⟨(congrArg some d63), (congrArg some d64), trivial⟩ ?_
       exact dg_off rfl rfl rfl rfl ⟨BX.refl _ _, rfl⟩
      ·
       intro w48 D hS39 hd39
       have hl48 := Le.no M1 hS39
       have hC48 := hC3.no hS39
       have hd39 : PEq (.bool true) (D 12) w48 ∧ True := hd39
       obtain ⟨d65, -⟩ := hd39
       refine dg_sub (E' := [(35, (.bool true)), (1, (.int .i64 a_top))]) ⟨(congrArg some d65), rfl, trivial⟩ ?_
       exact dg_off rfl rfl rfl rfl ⟨BX.refl _ _, rfl⟩
      ·
       intro w49 D hS40 hd40
       have hd40 : PV (RSlice RSpan) M1 a_list (D 0) w49 ∧ PEq (.int .i64 k1) (D 1) w49 ∧ PA RSpan M1 x2 (D 2) w49 ∧ PA RInt M1 x2.Lo (D 3) w49 ∧ PEq (.int .i64 x2.Lo) (D 4) w49 ∧ PV (RSlice RSpan) M1 a_list (D 5) w49 ∧ PEq (.int .i64 k1) (D 6) w49 ∧ PA RSpan M1 x2 (D 7) w49 ∧ PA RInt M1 x2.Hi (D 8) w49 ∧ PEq (.int .i64 x2.Hi) (D 9) w49 ∧ PEq (.bool false) (D 10) w49 ∧ PEq (.bool true) (D 11) w49 ∧ PEq (.bool true) (D 12) w49 ∧ PEq undef (D 13) w49 ∧ PEq undef (D 14) w49 ∧ PEq undef (D 15) w49 ∧ PEq undef (D 16) w49 ∧ PEq undef (D 17) w49 ∧ PEq undef (D 18) w49 ∧ True := hd40
       obtain ⟨-, -, -, -, -, -, -, -, -, -, -, -, d78, -, -, -, -, d83, d84, -⟩ := hd40
       have hl49 := Le.no M1 hS40
       have hC49 := hC3.no hS40
       refine lw_sub (E' := [(35, (.bool true)), (40, undef), (41, undef), (0, v0p), (1, (.int .i64 a_top)), (5, v2), (6, (.int .i64 k1))]) ⟨(congrArg some d78), (congrArg some d83), (congrArg some d84), rfl, rfl, rfl, rfl, trivial⟩ ?_
       refine lw_off rfl rfl rfl rfl rfl rfl ?_
       refine lw_off rfl rfl rfl rfl rfl rfl ?_
       refine lw_op rfl rfl rfl (ow_pickT rfl rfl rfl ?_)
       refine lw_nil (ew_then (cw_true rfl ?_))
       refine cw_seq (cw_region (lw_op rfl rfl rfl (ow_buildSlice0I (R := RSpan) (e := 76) rfl (by kernel_rfl) hC49 fun p22 w50 hw4 hb10 hl50 hC50 => ?_)))
       refine lw_op rfl rfl rfl (ow_assign rfl rfl ?_)
       refine lw_nil (ew_then (cw_ret (ew_thenR (ew_blockR ?_))))
       refine ew_thenR (ew_thenR (ew_blockR ?_))
       refine ew_brkR ?_
       refine ew_thenR ?_
       have e12 := hR1 _ (Option.some.inj hb3).symm
       subst e12
       obtain rfl := Option.some.inj h
       exact ew_ret (res1 rfl (.tmp rfl)) ⟨_, rfl, (VRep.mono hC50.back hw4), hC50.bx⟩
    ·
     obtain rfl := hbb2.trans hc3
     refine cw_false rfl ?_
     refine cw_exit ?_
     refine ew_thenX ?_
     refine ew_thenX ?_
     refine ew_blockX ?_
     refine ew_brk (y1, k1) hb3 fun a ha => ⟨M1, v2, ?_, hl3, hC3, hw2⟩
     exact ha.sub ⟨rfl, rfl, rfl, rfl, trivial⟩
   ·
    rintro ⟨y2, k2⟩ a w51 hlr2 ⟨M2, v23, hF2, hl51, hC51, hw5⟩
    subst hlr2
    refine ew_at (E := [(0, v0p), (1, (.int .i64 a_top)), (5, v23), (6, (.int .i64 k2))]) hF2 ?_
    refine ew_then (cw_seq (cw_region (lw_op rfl rfl rfl (ow_move rfl rfl ?_))))
    refine lw_op rfl rfl rfl (ow_assign rfl rfl ?_)
    refine lw_nil (ew_then (cw_ret ?_))
    obtain rfl := Option.some.inj h
    exact ew_ret (res1 rfl (.tmp rfl)) ⟨_, rfl, (VRep.mono hC51.back hw5), hC51.bx⟩
 ·
  subst hc1
  refine lw_off rfl rfl rfl rfl rfl rfl ?_
  refine lw_off rfl rfl rfl rfl rfl rfl ?_
  refine lw_off rfl rfl rfl rfl rfl rfl ?_
  refine lw_op rfl rfl rfl (ow_pickT rfl rfl rfl ?_)
  refine lw_nil (ew_then (cw_true rfl ?_))
  refine cw_seq (cw_region (lw_op rfl rfl rfl (ow_move rfl rfl ?_)))
  refine lw_op rfl rfl rfl (ow_assign rfl rfl ?_)
  refine lw_nil (ew_then (cw_ret (ew_thenR ?_)))
  obtain rfl := Option.some.inj h
  exact ew_ret (res1 rfl (.tmp rfl)) ⟨_, rfl, (VRep.mono hC2.back (VRep.mono hl2 hw1)), hC2.bx⟩

theorem wo_spec_SpansOf {w : World} {M : Nat → Prop} (hG : ARep (RArr 4 RShape) w M shapes ⟨0, 0, none⟩) (hO : ∀ b, M b → b < w.heap.size) {v0p : Value} {a_list : List Span} (h0 : VRep (RSlice RSpan) w M a_list v0p) {a_top : Int} {r : (List Span)} (h : F.spec_SpansOf a_list a_top = some r) :
  Calls Tryd.prog 112 [v0p, (.int .i64 a_top)].toArray w fun e w' => ∃ v, e = .returned v ∧ (∃ M', OwnRow RSpan w.heap.size 76 w' M' r v ∧ Cx No w M w' M') ∧ BX No w w' := by
 have hC : Cx No w M w M := Cx.start hO (fun _ e => e.elim)
 refine walk (N := 53) Tryd.func112 rfl Tryd.ntmps112 rfl ?_
 refine cw_seq (cw_region (lw_op rfl rfl rfl (ow_assign rfl rfl ?_)))
 refine lw_nil (ew_then (cw_seq (cw_region (lw_op rfl rfl rfl (ow_buildSlice0 (R := RSpan) (e := 76) rfl (by kernel_rfl) hC fun p1 w1 M1 hr1 hb1 hl1 hC1 hM1 hat1 => ?_)))))
 refine lw_op rfl rfl rfl (ow_assign rfl rfl ?_)
 refine lw_nil (ew_then (cw_seq (cw_seq (cw_region (lw_op rfl rfl rfl (ow_move rfl rfl ?_))))))
 replace h := bind_some h
 obtain ⟨x1, hx1, h⟩ := h
 refine lw_op rfl rfl rfl (ow_call rfl rfl Tryd.call82 (w_spec_l1In (hG.mono hl1) hC1.old hx1) fun v1 w2 hv1 => ?_)
 obtain ⟨hv1, hb2⟩ := hv1
 have hl2 := Le.no M1 hb2
 have hC2 := hC1.no hb2
 have hr2 := hr1.no hb2
 obtain rfl := vbool_eq hv1
 refine lw_op rfl rfl rfl (ow_not rfl rfl ?_)
 refine lw_op rfl rfl rfl (ow_move rfl rfl ?_)
 replace h := cond_some h
 rcases h with ⟨hc1, h⟩ | ⟨hc1, h⟩
 ·
  subst hc1
  refine lw_on rfl rfl rfl rfl rfl rfl (ow_move rfl rfl ?_)
  refine lw_on rfl rfl rfl rfl rfl rfl (ow_len rfl rfl (VRep.mono (hl1.trans hl2) h0) Tryd.underlying58 rfl ?_)
  refine lw_on rfl rfl rfl rfl rfl rfl (ow_gtr rfl rfl rfl fun bb1 hbb1 => ?_)
  refine lw_op rfl rfl rfl (ow_pickF rfl rfl rfl ?_)
  refine lw_nil (ew_then ?_)
  replace h := cond_some h
  rcases h with ⟨hc2, h⟩ | ⟨hc2, h⟩
  ·
   obtain rfl := hbb1.trans hc2
   refine cw_true rfl ?_
   refine cw_seq (cw_region (lw_op rfl rfl rfl (ow_move rfl rfl ?_)))
   refine lw_op rfl rfl rfl (ow_assign rfl rfl ?_)
   refine lw_nil (ew_then (cw_ret (ew_thenR ?_)))
   obtain rfl := Option.some.inj h
   exact ew_ret (res1 rfl (.tmp rfl)) ⟨_, rfl, ⟨M1, hr2, hC2⟩, hC2.bx⟩
  ·
   obtain rfl := hbb1.trans hc2
   refine cw_false rfl ?_
   refine cw_skip (ew_then (cw_seq (cw_seq (cw_region (lw_op rfl rfl rfl (ow_assign rfl rfl ?_))))))
   refine lw_nil (ew_then ?_)
   replace h := bind_some h
   obtain ⟨lr1, hlr1, h⟩ := h
   refine cw_for hlr1 (fun s a w' => ∃ (M' : Nat → Prop) (v0c : Value), Fits 53 [(0, v0p), (1, (.int .i64 a_top)), (5, v0c), (6, (.int .i64 s.2))] a ∧ Le w2 M1 w' M' ∧ Cx No w M w' M' ∧ OwnRow RSpan w.heap.size 76 w' M' s.1 v0c) ?_ ?_ ?_
   ·
    intro a ha
    exact ⟨M1, (.slice (some p1) 0 0), ha.sub ⟨rfl, rfl, rfl, rfl, trivial⟩, Le.refl _ _, hC2, hr2⟩
   ·
    rintro ⟨y1, k1⟩ a w3 sr1 ⟨M2, v2, hF1, hl3, hC3, hw1⟩ hb3 hR1
    refine cw_at (E := [(0, v0p), (1, (.int .i64 a_top)), (5, v2), (6, (.int .i64 k1))]) hF1 ?_
    refine cw_seq (cw_seq (cw_region (lw_op rfl rfl rfl (ow_move rfl rfl ?_))))
    refine lw_op rfl rfl rfl (ow_move rfl rfl ?_)
    refine lw_op rfl rfl rfl (ow_len rfl rfl (VRep.mono ((hl1.trans hl2).trans hl3) h0) Tryd.underlying58 rfl ?_)
    refine lw_op rfl rfl rfl (ow_lss rfl rfl rfl fun bb2 hbb2 => ?_)
    refine lw_nil (ew_then ?_)
    replace hb3 := cond_some hb3
    rcases hb3 with ⟨hc3, hb3⟩ | ⟨hc3, hb3⟩
    ·
     obtain rfl := hbb2.trans hc3
     refine cw_true rfl ?_
     refine cw_skip (ew_then (cw_seq (cw_block ?_)))
     refine cw_seq (cw_seq ?_)
     replace hb3 := bind_some hb3
     obtain ⟨x2, hx2, hb3⟩ := hb3
     replace hb3 := bind_some hb3
     obtain ⟨x3, hx3, hb3⟩ := hb3
     replace hb3 := cond_some hb3
     rcases hb3 with ⟨hc4, hb3⟩ | ⟨hc4, hb3⟩
     ·
      subst hc4
      refine cw_sub (E' := [(0, v0p), (1, (.int .i64 a_top)), (5, v2), (6, (.int .i64 k1))]) ⟨rfl, rfl, rfl, rfl, trivial⟩ ?_
      refine cw_drawQ 19 [PV (RSlice RSpan) M2 a_list, PEq (.int .i64 k1), PA RSpan M2 x2, PA RInt M2 x2.Lo, PEq (.int .i64 x2.Lo), PV (RSlice RSpan) M2 a_list, PEq (.int .i64 k1), PA RSpan M2 x2, PA RInt M2 x2.Hi, PEq (.int .i64 x2.Hi), PEq (.bool true), PEq (.bool false), PEq (.bool false), PV (RSlice RSpan) M2 a_list, PEq (.int .i64 k1), PA RSpan M2 x2, PA RInt M2 x2.Hi, PEq (.int .i64 x2.Hi), PEq (.int .i64 a_top)] (by kernel_rfl) rfl (by kernel_rfl) ⟨PV.mono _ _ _, PEq.mono _, PA.mono _ _ _, PA.mono _ _ _, PEq.mono _, PV.mono _ _ _, PEq.mono _, PA.mono _ _ _, PA.mono _ _ _, PEq.mono _, PEq.mono _, PEq.mono _, PEq.mono _, PV.mono _ _ _, PEq.mono _, PA.mono _ _ _, PA.mono _ _ _, PEq.mono _, PEq.mono _, trivial⟩ ⟨?_, ?_, ?_, ?_, ?_, ?_, ?_, ?_, ?_, ?_, ?_, ?_, ?_, ?_, ?_, ?_, ?_, ?_, ?_, trivial⟩ ?_
      ·
       intro w5 D hS1 hd1
       have hl5 := Le.no M2 hS1
       have hC5 := hC3.no hS1
       have hr4 := hw1.no hS1
       refine dg_sub (E' := [(0, v0p)]) ⟨rfl, trivial⟩ ?_
       refine dg_plain rfl (ow_move rfl rfl ?_)
       exact ⟨BX.refl _ _, (VRep.mono (((hl1.trans hl2).trans hl3).trans hl5) h0)⟩
      ·
       intro w6 D hS2 hd2
       have hl6 := Le.no M2 hS2
       have hC6 := hC3.no hS2
       have hr5 := hw1.no hS2
       refine dg_sub (E' := [(6, (.int .i64 k1))]) ⟨rfl, trivial⟩ ?_
       refine dg_plain rfl (ow_move rfl rfl ?_)
       exact ⟨BX.refl _ _, rfl⟩
      ·
       intro w7 D hS3 hd3
       have hl7 := Le.no M2 hS3
       have hC7 := hC3.no hS3
       have hr6 := hw1.no hS3
       have hd3 : PV (RSlice RSpan) M2 a_list (D 0) w7 ∧ PEq (.int .i64 k1) (D 1) w7 ∧ True := hd3
       obtain ⟨d1, d2, -⟩ := hd3
       obtain ⟨v8, hq1⟩ : ∃ v, (D 0) = v := ⟨_, rfl⟩
       rw [hq1] at d1
       refine dg_sub (E' := [(23, v8), (24, (.int .i64 k1))]) ⟨(congrArg some hq1), (congrArg some d2), trivial⟩ ?_
       refine dg_plain rfl (ow_indexSlice (R := RSpan) rfl rfl rfl d1 Tryd.underlying58 (Tryd.sizeOf76 _) hx2 fun p5 hp5 => ?_)
       exact ⟨BX.refl _ _, ⟨_, rfl, hp5⟩⟩
      ·
       intro w8 D hS4 hd4
       have hl8 := Le.no M2 hS4
       have hC8 := hC3.no hS4
       have hr7 := hw1.no hS4
       have hd4 : PA RSpan M2 x2 (D 2) w8 ∧ True := hd4
       obtain ⟨d3, -⟩ := hd4
       obtain ⟨p6, e1, ha1⟩ := d3
       refine dg_sub (E' := [(25, (.pointer (some p6)))]) ⟨(congrArg some e1), trivial⟩ ?_
       refine dg_plain rfl (ow_fieldAddr rfl rfl Tryd.underlying76 rfl (Tryd.sizeOf3 _) ?_)
       exact ⟨BX.refl _ _, ⟨_, rfl, (ha1.fld fld_Span_Lo)⟩⟩
      ·
       intro w9 D hS5 hd5
       have hl9 := Le.no M2 hS5
       have hC9 := hC3.no hS5
       have hr8 := hw1.no hS5
       have hd5 : PA RInt M2 x2.Lo (D 3) w9 ∧ True := hd5
       obtain ⟨d4, -⟩ := hd5
       obtain ⟨p7, e2, ha2⟩ := d4
       refine dg_sub (E' := [(26, (.pointer (some p7)))]) ⟨(congrArg some e2), trivial⟩ ?_
       refine dg_plain rfl (ow_load (R := RInt) rfl rfl ha2 (Tryd.sizeOf3 _) (Tryd.isAgg3 _) fun v9 hv9 => ?_)
       obtain rfl := vint_eq hv9
       exact ⟨BX.refl _ _, rfl⟩
      ·
       intro w10 D hS6 hd6
       have hl10 := Le.no M2 hS6
       have hC10 := hC3.no hS6
       have hr9 := hw1.no hS6
       refine dg_sub (E' := [(0, v0p)]) ⟨rfl, trivial⟩ ?_
       refine dg_plain rfl (ow_move rfl rfl ?_)
       exact ⟨BX.refl _ _, (VRep.mono (((hl1.trans hl2).trans hl3).trans hl10) h0)⟩
      ·
       intro w11 D hS7 hd7
       have hl11 := Le.no M2 hS7
       have hC11 := hC3.no hS7
       have hr10 := hw1.no hS7
       refine dg_sub (E' := [(6, (.int .i64 k1))]) ⟨rfl, trivial⟩ ?_
       refine dg_plain rfl (ow_move rfl rfl ?_)
       exact ⟨BX.refl _ _, rfl⟩
      ·
       intro w12 D hS8 hd8
       have hl12 := Le.no M2 hS8
       have hC12 := hC3.no hS8
       have hr11 := hw1.no hS8
       have hd8 : PV (RSlice RSpan) M2 a_list (D 5) w12 ∧ PEq (.int .i64 k1) (D 6) w12 ∧ True := hd8
       obtain ⟨d5, d6, -⟩ := hd8
       obtain ⟨v10, hq2⟩ : ∃ v, (D 5) = v := ⟨_, rfl⟩
       rw [hq2] at d5
       refine dg_sub (E' := [(28, v10), (29, (.int .i64 k1))]) ⟨(congrArg some hq2), (congrArg some d6), trivial⟩ ?_
       refine dg_plain rfl (ow_indexSlice (R := RSpan) rfl rfl rfl d5 Tryd.underlying58 (Tryd.sizeOf76 _) hx2 fun p8 hp8 => ?_)
       exact ⟨BX.refl _ _, ⟨_, rfl, hp8⟩⟩
      ·
       intro w13 D hS9 hd9
       have hl13 := Le.no M2 hS9
       have hC13 := hC3.no hS9
       have hr12 := hw1.no hS9
       have hd9 : PA RSpan M2 x2 (D 7) w13 ∧ True := hd9
       obtain ⟨d7, -⟩ := hd9
       obtain ⟨p9, e3, ha3⟩ := d7
       refine dg_sub (E' := [(30, (.pointer (some p9)))]) ⟨(congrArg some e3), trivial⟩ ?_
       refine dg_plain rfl (ow_fieldAddr rfl rfl Tryd.underlying76 rfl (Tryd.sizeOf3 _) ?_)
       exact ⟨BX.refl _ _, ⟨_, rfl, (ha3.fld fld_Span_Hi)⟩⟩
      ·
       intro w14 D hS10 hd10
       have hl14 := Le.no M2 hS10
       have hC14 := hC3.no hS10
       have hr13 := hw1.no hS10
       have hd10 : PA RInt M2 x2.Hi (D 8) w14 ∧ True := hd10
       obtain ⟨d8, -⟩ := hd10
       obtain ⟨p10, e4, ha4⟩ := d8
       refine dg_sub (E' := [(31, (.pointer (some p10)))]) ⟨(congrArg some e4), trivial⟩ ?_
       refine dg_plain rfl (ow_load (R := RInt) rfl rfl ha4 (Tryd.sizeOf3 _) (Tryd.isAgg3 _) fun v11 hv11 => ?_)
       obtain rfl := vint_eq hv11
       exact ⟨BX.refl _ _, rfl⟩
      ·
       intro w15 D hS11 hd11
       have hl15 := Le.no M2 hS11
       have hC15 := hC3.no hS11
       have hr14 := hw1.no hS11
       have hd11 : PEq (.int .i64 x2.Lo) (D 4) w15 ∧ PEq (.int .i64 x2.Hi) (D 9) w15 ∧ True := hd11
       obtain ⟨d9, d10, -⟩ := hd11
       refine dg_sub (E' := [(27, (.int .i64 x2.Lo)), (32, (.int .i64 x2.Hi))]) ⟨(congrArg some d9), (congrArg some d10), trivial⟩ ?_
       refine dg_plain rfl (ow_call rfl rfl Tryd.call82 (w_spec_l1In (hG.mono (((hl1.trans hl2).trans hl3).trans hl15)) hC15.old hx3) fun v12 w16 hv12 => ?_)
       obtain ⟨hv12, hb5⟩ := hv12
       have hl16 := Le.no M2 hb5
       have hC16 := hC15.no hb5
       have hr15 := hr14.no hb5
       obtain rfl := vbool_eq hv12
       exact ⟨hb5, rfl⟩
      ·
       intro w17 D hS12 hd12
       have hl17 := Le.no M2 hS12
       have hC17 := hC3.no hS12
       have hr16 := hw1.no hS12
       have hd12 : PEq (.bool true) (D 10) w17 ∧ True := hd12
       obtain ⟨d11, -⟩ := hd12
       refine dg_sub (E' := [(33, (.bool true))]) ⟨(congrArg some d11), trivial⟩ ?_
       refine dg_plain rfl (ow_not rfl rfl ?_)
       exact ⟨BX.refl _ _, rfl⟩
      ·
       intro w18 D hS13 hd13
       have hl18 := Le.no M2 hS13
       have hC18 := hC3.no hS13
       have hr17 := hw1.no hS13
       have hd13 : PEq (.bool false) (D 11) w18 ∧ PEq (.bool true) (D 10) w18 ∧ True := hd13
       obtain ⟨d12, d13, -⟩ := hd13
       refine dg_sub (E' := [(34, (.bool false))]) ⟨(congrArg some d12), trivial⟩ ?_
       refine dg_plain rfl (ow_move rfl rfl ?_)
       exact ⟨BX.refl _ _, rfl⟩
      ·
       intro w19 D hS14 hd14
       have hl19 := Le.no M2 hS14
       have hC19 := hC3.no hS14
       have hr18 := hw1.no hS14
       have hd14 : PEq (.bool false) (D 12) w19 ∧ True := hd14
       obtain ⟨d14, -⟩ := hd14
       refine dg_sub (E' := [(35, (.bool false)), (0, v0p)]) ⟨(congrArg some d14), rfl, trivial⟩ ?_
       refine dg_on rfl rfl rfl rfl (ow_move rfl rfl ?_)
       exact ⟨BX.refl _ _, (VRep.mono (((hl1.trans hl2).trans hl3).trans hl19) h0)⟩
      ·
       intro w20 D hS15 hd15
       have hl20 := Le.no M2 hS15
       have hC20 := hC3.no hS15
       have hr19 := hw1.no hS15
       have hd15 : PEq (.bool false) (D 12) w20 ∧ True := hd15
       obtain ⟨d15, -⟩ := hd15
       refine dg_sub (E' := [(35, (.bool false)), (6, (.int .i64 k1))]) ⟨(congrArg some d15), rfl, trivial⟩ ?_
       refine dg_on rfl rfl rfl rfl (ow_move rfl rfl ?_)
       exact ⟨BX.refl _ _, rfl⟩
      ·
       intro w21 D hS16 hd16
       have hl21 := Le.no M2 hS16
       have hC21 := hC3.no hS16
       have hr20 := hw1.no hS16
       have hd16 : PV (RSlice RSpan) M2 a_list (D 13) w21 ∧ PEq (.int .i64 k1) (D 14) w21 ∧ PEq (.bool false) (D 12) w21 ∧ True := hd16
       obtain ⟨d16, d17, d18, -⟩ := hd16
       obtain ⟨v13, hq3⟩ : ∃ v, (D 13) = v := ⟨_, rfl⟩
       rw [hq3] at d16
       refine dg_sub (E' := [(36, v13), (37, (.int .i64 k1)), (35, (.bool false))]) ⟨(congrArg some hq3), (congrArg some d17), (congrArg some d18), trivial⟩ ?_
       refine dg_on rfl rfl rfl rfl (ow_indexSlice (R := RSpan) rfl rfl rfl d16 Tryd.underlying58 (Tryd.sizeOf76 _) hx2 fun p11 hp11 => ?_)
       exact ⟨BX.refl _ _, ⟨_, rfl, hp11⟩⟩
      ·
       intro w22 D hS17 hd17
       have hl22 := Le.no M2 hS17
       have hC22 := hC3.no hS17
       have hr21 := hw1.no hS17
       have hd17 : PA RSpan M2 x2 (D 15) w22 ∧ PEq (.bool false) (D 12) w22 ∧ True := hd17
       obtain ⟨d19, d20, -⟩ := hd17
       obtain ⟨p12, e5, ha5⟩ := d19
       refine dg_sub (E' := [(38, (.pointer (some p12))), (35, (.bool false))]) ⟨(congrArg some e5), (congrArg some d20), trivial⟩ ?_
       refine dg_on rfl rfl rfl rfl (ow_fieldAddr rfl rfl Tryd.underlying76 rfl (Tryd.sizeOf3 _) ?_)
       exact ⟨BX.refl _ _, ⟨_, rfl, (ha5.fld fld_Span_Hi)⟩⟩
      ·
       intro w23 D hS18 hd18
       have hl23 := Le.no M2 hS18
       have hC23 := hC3.no hS18
       have hr22 := hw1.no hS18
       have hd18 : PA RInt M2 x2.Hi (D 16) w23 ∧ PEq (.bool false) (D 12) w23 ∧ True := hd18
       obtain ⟨d21, d22, -⟩ := hd18
       obtain ⟨p13, e6, ha6⟩ := d21
       refine dg_sub (E' := [(39, (.pointer (some p13))), (35, (.bool false))]) ⟨(congrArg some e6), (congrArg some d22), trivial⟩ ?_
       refine dg_on rfl rfl rfl rfl (ow_load (R := RInt) rfl rfl ha6 (Tryd.sizeOf3 _) (Tryd.isAgg3 _) fun v14 hv14 => ?_)
       obtain rfl := vint_eq hv14
       exact ⟨BX.refl _ _, rfl⟩
      ·
       intro w24 D hS19 hd19
       have hl24 := Le.no M2 hS19
       have hC24 := hC3.no hS19
       have hr23 := hw1.no hS19
       have hd19 : PEq (.bool false) (D 12) w24 ∧ True := hd19
       obtain ⟨d23, -⟩ := hd19
       refine dg_sub (E' := [(35, (.bool false)), (1, (.int .i64 a_top))]) ⟨(congrArg some d23), rfl, trivial⟩ ?_
       refine dg_on rfl rfl rfl rfl (ow_move rfl rfl ?_)
       exact ⟨BX.refl _ _, rfl⟩
      ·
       intro w25 D hS20 hd20
       have hd20 : PV (RSlice RSpan) M2 a_list (D 0) w25 ∧ PEq (.int .i64 k1) (D 1) w25 ∧ PA RSpan M2 x2 (D 2) w25 ∧ PA RInt M2 x2.Lo (D 3) w25 ∧ PEq (.int .i64 x2.Lo) (D 4) w25 ∧ PV (RSlice RSpan) M2 a_list (D 5) w25 ∧ PEq (.int .i64 k1) (D 6) w25 ∧ PA RSpan M2 x2 (D 7) w25 ∧ PA RInt M2 x2.Hi (D 8) w25 ∧ PEq (.int .i64 x2.Hi) (D 9) w25 ∧ PEq (.bool true) (D 10) w25 ∧ PEq (.bool false) (D 11) w25 ∧ PEq (.bool false) (D 12) w25 ∧ PV (RSlice RSpan) M2 a_list (D 13) w25 ∧ PEq (.int .i64 k1) (D 14) w25 ∧ PA RSpan M2 x2 (D 15) w25 ∧ PA RInt M2 x2.Hi (D 16) w25 ∧ PEq (.int .i64 x2.Hi) (D 17) w25 ∧ PEq (.int .i64 a_top) (D 18) w25 ∧ True := hd20
       obtain ⟨-, -, -, -, -, -, -, -, -, -, -, -, d36, -, -, -, -, d41, d42, -⟩ := hd20
       have hl25 := Le.no M2 hS20
       have hC25 := hC3.no hS20
       have hr24 := hw1.no hS20
       refine lw_sub (E' := [(35, (.bool false)), (40, (.int .i64 x2.Hi)), (41, (.int .i64 a_top)), (0, v0p), (1, (.int .i64 a_top)), (5, v2), (6, (.int .i64 k1))]) ⟨(congrArg some d36), (congrArg some d41), (congrArg some d42), rfl, rfl, rfl, rfl, trivial⟩ ?_
       replace hb3 := bind_some hb3
       obtain ⟨x4, hx4, hb3⟩ := hb3
       refine lw_on rfl rfl rfl rfl rfl rfl (ow_call rfl rfl Tryd.call82 (w_spec_l1In (hG.mono (((hl1.trans hl2).trans hl3).trans hl25)) hC25.old hx4) fun v15 w26 hv15 => ?_)
       obtain ⟨hv15, hb6⟩ := hv15
       have hl26 := Le.no M2 hb6
       have hC26 := hC25.no hb6
       have hr25 := hr24.no hb6
       obtain rfl := vbool_eq hv15
       refine lw_on rfl rfl rfl rfl rfl rfl (ow_not rfl rfl ?_)
       refine lw_op rfl rfl rfl (ow_pickF rfl rfl rfl ?_)
       refine lw_nil (ew_then ?_)
       replace hb3 := cond_some hb3
       rcases hb3 with ⟨hc5, hb3⟩ | ⟨hc5, hb3⟩
       ·
        subst hc5
        refine cw_false rfl ?_
        refine cw_skip (ew_then (cw_region (lw_op rfl rfl rfl (ow_move rfl rfl ?_))))
        refine lw_op rfl rfl rfl (ow_move rfl rfl ?_)
        refine lw_op rfl rfl rfl (ow_move rfl rfl ?_)
        refine lw_op rfl rfl rfl (ow_indexSlice (R := RSpan) rfl rfl rfl (VRep.mono ((((hl1.trans hl2).trans hl3).trans hl25).trans hl26) h0) Tryd.underlying58 (Tryd.sizeOf76 _) hx2 fun p14 hp14 => ?_)
        refine lw_op rfl rfl rfl (ow_load (R := RSpan) rfl rfl hp14 (Tryd.sizeOf76 _) (Tryd.isAgg76 _) fun v16 hv16 => ?_)
        have hw2 := hr25.freezeDel
        have hC27 := hr25.cxDel hC26 (fun _ e => e.elim) hO
        have hl27 := Le.del w26 M2 v2
        replace hb3 := bind_some hb3
        obtain ⟨x5, hx5, hb3⟩ := hb3
        refine lw_op rfl rfl rfl (ow_call rfl rfl Tryd.call116 (wo_spec_l1Add (hG.mono (((((hl1.trans hl2).trans hl3).trans hl25).trans hl26).trans hl27)) hC27.old hw2 (VRep.mono hl27 hv16) hx5) fun v17 w27 hv17 => ?_)
        obtain ⟨⟨M3, hr26, hk1⟩, hb7⟩ := hv17
        replace hr26 := hr26.base hC27.bx.size
        have hl28 := hk1.le
        have hC28 := hC27.trans hk1
        refine lw_op rfl rfl rfl (ow_assign rfl rfl ?_)
        refine lw_nil (ew_blockN ?_)
        refine ew_then (cw_region (lw_op rfl rfl rfl (ow_move rfl rfl ?_)))
        refine lw_op rfl rfl rfl (ow_add rfl rfl rfl ?_)
        refine lw_op rfl rfl rfl (ow_assign rfl rfl ?_)
        refine lw_nil (ew_nxt (x5, (W (k1 + 1))) hb3 fun a ha => ⟨M3, v17, ?_, ((((hl3.trans hl25).trans hl26).trans hl27).trans hl28), hC28, hr26⟩)
        exact ha.sub ⟨rfl, rfl, rfl, rfl, trivial⟩
       ·
        subst hc5
        refine cw_true rfl ?_
        refine cw_seq (cw_region (lw_op rfl rfl rfl (ow_buildSlice0 (R := RSpan) (e := 76) rfl (by kernel_rfl) hC26 fun p15 w28 M4 hr27 hb8 hl29 hC29 hM2 hat2 => ?_)))
        have hr28 := hr25.go hb8 (fun _ _ e => e) hl29 hM2
        refine lw_op rfl rfl rfl (ow_assign rfl rfl ?_)
        refine lw_nil (ew_then (cw_ret (ew_thenR (ew_blockR ?_))))
        refine ew_thenR (ew_thenR (ew_blockR ?_))
        refine ew_brkR ?_
        refine ew_thenR ?_
        have e7 := hR1 _ (Option.some.inj hb3).symm
        subst e7
        obtain rfl := Option.some.inj h
        exact ew_ret (res1 rfl (.tmp rfl)) ⟨_, rfl, ⟨M4, hr27, hC29⟩, hC29.bx⟩
     ·
      subst hc4
      refine cw_sub (E' := [(0, v0p), (1, (.int .i64 a_top)), (5, v2), (6, (.int .i64 k1))]) ⟨rfl, rfl, rfl, rfl, trivial⟩ ?_
      refine cw_drawQ 19 [PV (RSlice RSpan) M2 a_list, PEq (.int .i64 k1), PA RSpan M2 x2, PA RInt M2 x2.Lo, PEq (.int .i64 x2.Lo), PV (RSlice RSpan) M2 a_list, PEq (.int .i64 k1), PA RSpan M2 x2, PA RInt M2 x2.Hi, PEq (.int .i64 x2.Hi), PEq (.bool false), PEq (.bool true), PEq (.bool true), PEq undef, PEq undef, PEq undef, PEq undef, PEq undef, PEq undef] (by kernel_rfl) rfl (by kernel_rfl) ⟨PV.mono _ _ _, PEq.mono _, PA.mono _ _ _, PA.mono _ _ _, PEq.mono _, PV.mono _ _ _, PEq.mono _, PA.mono _ _ _, PA.mono _ _ _, PEq.mono _, PEq.mono _, PEq.mono _, PEq.mono _, PEq.mono _, PEq.mono _, PEq.mono _, PEq.mono _, PEq.mono _, PEq.mono _, trivial⟩ ⟨?_, ?_, ?_, ?_, ?_, ?_, ?_, ?_, ?_, ?_, ?_, ?_, ?_, ?_, ?_, ?_, ?_, ?_, ?_, trivial⟩ ?_
      ·
       intro w29 D hS21 hd21
       have hl30 := Le.no M2 hS21
       have hC30 := hC3.no hS21
       have hr29 := hw1.no hS21
       refine dg_sub (E' := [(0, v0p)]) ⟨rfl, trivial⟩ ?_
       refine dg_plain rfl (ow_move rfl rfl ?_)
       exact ⟨BX.refl _ _, (VRep.mono (((hl1.trans hl2).trans hl3).trans hl30) h0)⟩
      ·
       intro w30 D hS22 hd22
       have hl31 := Le.no M2 hS22
       have hC31 := hC3.no hS22
       have hr30 := hw1.no hS22
       refine dg_sub (E' := [(6, (.int .i64 k1))]) ⟨rfl, trivial⟩ ?_
       refine dg_plain rfl (ow_move rfl rfl ?_)
       exact ⟨BX.refl _ _, rfl⟩
      ·
       intro w31 D hS23 hd23
       have hl32 := Le.no M2 hS23
       have hC32 := hC3.no hS23
       have hr31 := hw1.no hS23
       have hd23 : PV (RSlice RSpan) M2 a_list (D 0) w31 ∧ PEq (.int .i64 k1) (D 1) w31 ∧ True := hd23
       obtain ⟨d43, d44, -⟩ := hd23
       obtain ⟨v18, hq4⟩ : ∃ v, (D 0) = v := ⟨_, rfl⟩
       rw [hq4] at d43
       refine dg_sub (E' := [(23, v18), (24, (.int .i64 k1))]) ⟨(congrArg some hq4), (congrArg some d44), trivial⟩ ?_
       refine dg_plain rfl (ow_indexSlice (R := RSpan) rfl rfl rfl d43 Tryd.underlying58 (Tryd.sizeOf76 _) hx2 fun p16 hp16 => ?_)
       exact ⟨BX.refl _ _, ⟨_, rfl, hp16⟩⟩
      ·
       intro w32 D hS24 hd24
       have hl33 := Le.no M2 hS24
       have hC33 := hC3.no hS24
       have hr32 := hw1.no hS24
       have hd24 : PA RSpan M2 x2 (D 2) w32 ∧ True := hd24
       obtain ⟨d45, -⟩ := hd24
       obtain ⟨p17, e8, ha7⟩ := d45
       refine dg_sub (E' := [(25, (.pointer (some p17)))]) ⟨(congrArg some e8), trivial⟩ ?_
       refine dg_plain rfl (ow_fieldAddr rfl rfl Tryd.underlying76 rfl (Tryd.sizeOf3 _) ?_)
       exact ⟨BX.refl _ _, ⟨_, rfl, (ha7.fld fld_Span_Lo)⟩⟩
      ·
       intro w33 D hS25 hd25
       have hl34 := Le.no M2 hS25
       have hC34 := hC3.no hS25
       have hr33 := hw1.no hS25
       have hd25 : PA RInt M2 x2.Lo (D 3) w33 ∧ True := hd25
       obtain ⟨d46, -⟩ := hd25
       obtain ⟨p18, e9, ha8⟩ := d46
       refine dg_sub (E' := [(26, (.pointer (some p18)))]) ⟨(congrArg some e9), trivial⟩ ?_
       refine dg_plain rfl (ow_load (R := RInt) rfl rfl ha8 (Tryd.sizeOf3 _) (Tryd.isAgg3 _) fun v19 hv19 => ?_)
       obtain rfl := vint_eq hv19
       exact ⟨BX.refl _ _, rfl⟩
      ·
       intro w34 D hS26 hd26
       have hl35 := Le.no M2 hS26
       have hC35 := hC3.no hS26
       have hr34 := hw1.no hS26
       refine dg_sub (E' := [(0, v0p)]) ⟨rfl, trivial⟩ ?_
       refine dg_plain rfl (ow_move rfl rfl ?_)
       exact ⟨BX.refl _ _, (VRep.mono (((hl1.trans hl2).trans hl3).trans hl35) h0)⟩
      ·
       intro w35 D hS27 hd27
       have hl36 := Le.no M2 hS27
       have hC36 := hC3.no hS27
       have hr35 := hw1.no hS27
       refine dg_sub (E' := [(6, (.int .i64 k1))]) ⟨rfl, trivial⟩ ?_
       refine dg_plain rfl (ow_move rfl rfl ?_)
       exact ⟨BX.refl _ _, rfl⟩
      ·
       intro w36 D hS28 hd28
       have hl37 := Le.no M2 hS28
       have hC37 := hC3.no hS28
       have hr36 := hw1.no hS28
       have hd28 : PV (RSlice RSpan) M2 a_list (D 5) w36 ∧ PEq (.int .i64 k1) (D 6) w36 ∧ True := hd28
       obtain ⟨d47, d48, -⟩ := hd28
       obtain ⟨v20, hq5⟩ : ∃ v, (D 5) = v := ⟨_, rfl⟩
       rw [hq5] at d47
       refine dg_sub (E' := [(28, v20), (29, (.int .i64 k1))]) ⟨(congrArg some hq5), (congrArg some d48), trivial⟩ ?_
       refine dg_plain rfl (ow_indexSlice (R := RSpan) rfl rfl rfl d47 Tryd.underlying58 (Tryd.sizeOf76 _) hx2 fun p19 hp19 => ?_)
       exact ⟨BX.refl _ _, ⟨_, rfl, hp19⟩⟩
      ·
       intro w37 D hS29 hd29
       have hl38 := Le.no M2 hS29
       have hC38 := hC3.no hS29
       have hr37 := hw1.no hS29
       have hd29 : PA RSpan M2 x2 (D 7) w37 ∧ True := hd29
       obtain ⟨d49, -⟩ := hd29
       obtain ⟨p20, e10, ha9⟩ := d49
       refine dg_sub (E' := [(30, (.pointer (some p20)))]) ⟨(congrArg some e10), trivial⟩ ?_
       refine dg_plain rfl (ow_fieldAddr rfl rfl Tryd.underlying76 rfl (Tryd.sizeOf3 _) ?_)
       exact ⟨BX.refl _ _, ⟨_, rfl, (ha9.fld fld_Span_Hi)⟩⟩
      ·
       intro w38 D hS30 hd30
       have hl39 := Le.no M2 hS30
       have hC39 := hC3.no hS30
       have hr38 := hw1.no hS30
       have hd30 : PA RInt M2 x2.Hi (D 8) w38 ∧ True := hd30
       obtain ⟨d50, -⟩ := hd30
       obtain ⟨p21, e11, ha10⟩ := d50
       refine dg_sub (E' := [(31, (.pointer (some p21)))]) ⟨(congrArg some e11), trivial⟩ ?_
       refine dg_plain rfl (ow_load (R := RInt) rfl rfl ha10 (Tryd.sizeOf3 _) (Tryd.isAgg3 _) fun v21 hv21 => ?_)
       obtain rfl := vint_eq hv21
       exact ⟨BX.refl _ _, rfl⟩
      ·
       intro w39 D hS31 hd31
       have hl40 := Le.no M2 hS31
       have hC40 := hC3.no hS31
       have hr39 := hw1.no hS31
       have hd31 : PEq (.int .i64 x2.Lo) (D 4) w39 ∧ PEq (.int .i64 x2.Hi) (D 9) w39 ∧ True := hd31
       obtain ⟨d51, d52, -⟩ := hd31
       refine dg_sub (E' := [(27, (.int .i64 x2.Lo)), (32, (.int .i64 x2.Hi))]) ⟨(congrArg some d51), (congrArg some d52), trivial⟩ ?_
       refine dg_plain rfl (ow_call rfl rfl Tryd.call82 (w_spec_l1In (hG.mono (((hl1.trans hl2).trans hl3).trans hl40)) hC40.old hx3) fun v22 w40 hv22 => ?_)
       obtain ⟨hv22, hb9⟩ := hv22
       have hl41 := Le.no M2 hb9
       have hC41 := hC40.no hb9
       have hr40 := hr39.no hb9
       obtain rfl := vbool_eq hv22
       exact ⟨hb9, rfl⟩
      ·
       intro w41 D hS32 hd32
       have hl42 := Le.no M2 hS32
       have hC42 := hC3.no hS32
       have hr41 := hw1.no hS32
       have hd32 : PEq (.bool false) (D 10) w41 ∧ True := hd32
       obtain ⟨d53, -⟩ := hd32
       refine dg_sub (E' := [(33, (.bool false))]) ⟨(congrArg some d53), trivial⟩ ?_
       refine dg_plain rfl (ow_not rfl rfl ?_)
       exact ⟨BX.refl _ _, rfl⟩
      ·
       intro w42 D hS33 hd33
       have hl43 := Le.no M2 hS33
       have hC43 := hC3.no hS33
       have hr42 := hw1.no hS33
       have hd33 : PEq (.bool true) (D 11) w42 ∧ PEq (.bool false) (D 10) w42 ∧ True := hd33
       obtain ⟨d54, d55, -⟩ := hd33
       refine dg_sub (E' := [(34, (.bool true))]) ⟨(congrArg some d54), trivial⟩ ?_
       refine dg_plain rfl (ow_move rfl rfl ?_)
       exact ⟨BX.refl _ _, rfl⟩
      ·
       intro w43 D hS34 hd34
       have hl44 := Le.no M2 hS34
       have hC44 := hC3.no hS34
       have hr43 := hw1.no hS34
       have hd34 : PEq (.bool true) (D 12) w43 ∧ True := hd34
       obtain ⟨d56, -⟩ := hd34
       refine dg_sub (E' := [(35, (.bool true)), (0, v0p)]) ⟨(congrArg some d56), rfl, trivial⟩ ?_
       exact dg_off rfl rfl rfl rfl ⟨BX.refl _ _, rfl⟩
      ·
       intro w44 D hS35 hd35
       have hl45 := Le.no M2 hS35
       have hC45 := hC3.no hS35
       have hr44 := hw1.no hS35
       have hd35 : PEq (.bool true) (D 12) w44 ∧ True := hd35
       obtain ⟨d57, -⟩ := hd35
       refine dg_sub (E' := [(35, (.bool true)), (6, (.int .i64 k1))]) ⟨(congrArg some d57), rfl, trivial⟩ ?_
       exact dg_off rfl rfl rfl rfl ⟨BX.refl _ _, rfl⟩
      ·
       intro w45 D hS36 hd36
       have hl46 := Le.no M2 hS36
       have hC46 := hC3.no hS36
       have hr45 := hw1.no hS36
       have hd36 : PEq undef (D 13) w45 ∧ PEq undef (D 14) w45 ∧ PEq (.bool true) (D 12) w45 ∧ True := hd36
       obtain ⟨d58, d59, d60, -⟩ := hd36
       refine dg_sub (E' := [(36, undef), (37, undef), (35, (.bool true))]) ⟨(congrArg some d58), (congrArg some d59), (congrArg some d60), trivial⟩ ?_
       exact dg_off rfl rfl rfl rfl ⟨BX.refl _ _, rfl⟩
      ·
       intro w46 D hS37 hd37
       have hl47 := Le.no M2 hS37
       have hC47 := hC3.no hS37
       have hr46 := hw1.no hS37
       have hd37 : PEq undef (D 15) w46 ∧ PEq (.bool true) (D 12) w46 ∧ True := hd37
       obtain ⟨d61, d62, -⟩ := hd37
       refine dg_sub (E' := [(38, undef), (35, (.bool true))]) ⟨(congrArg some d61), (congrArg some d62), trivial⟩ ?_
       exact dg_off rfl rfl rfl rfl ⟨BX.refl _ _, rfl⟩
      ·
       intro w47 D hS38 hd38
       have hl48 := Le.no M2 hS38
       have hC48 := hC3.no hS38
       have hr47 := hw1.no hS38
       have hd38 : PEq undef (D 16) w47 ∧ PEq (.bool true) (D 12) w47 ∧ True := hd38
       obtain ⟨d63, d64, -⟩ := hd38
       refine dg_sub (E' := [(39, undef), (35, (.bool true))]) ⟨(congrArg some d63), (congrArg some d64), trivial⟩ ?_
       exact dg_off rfl rfl rfl rfl ⟨BX.refl _ _, rfl⟩
      ·
       intro w48 D hS39 hd39
       have hl49 := Le.no M2 hS39
       have hC49 := hC3.no hS39
       have hr48 := hw1.no hS39
       have hd39 : PEq (.bool true) (D 12) w48 ∧ True := hd39
       obtain ⟨d65, -⟩ := hd39
       refine dg_sub (E' := [(35, (.bool true)), (1, (.int .i64 a_top))]) ⟨(congrArg some d65), rfl, trivial⟩ ?_
       exact dg_off rfl rfl rfl rfl ⟨BX.refl _ _, rfl⟩
      ·
       intro w49 D hS40 hd40
       have hd40 : PV (RSlice RSpan) M2 a_list (D 0) w49 ∧ PEq (.int .i64 k1) (D 1) w49 ∧ PA RSpan M2 x2 (D 2) w49 ∧ PA RInt M2 x2.Lo (D 3) w49 ∧ PEq (.int .i64 x2.Lo) (D 4) w49 ∧ PV (RSlice RSpan) M2 a_list (D 5) w49 ∧ PEq (.int .i64 k1) (D 6) w49 ∧ PA RSpan M2 x2 (D 7) w49 ∧ PA RInt M2 x2.Hi (D 8) w49 ∧ PEq (.int .i64 x2.Hi) (D 9) w49 ∧ PEq (.bool false) (D 10) w49 ∧ PEq (.bool true) (D 11) w49 ∧ PEq (.bool true) (D 12) w49 ∧ PEq undef (D 13) w49 ∧ PEq undef (D 14) w49 ∧ PEq undef (D 15) w49 ∧ PEq undef (D 16) w49 ∧ PEq undef (D 17) w49 ∧ PEq undef (D 18) w49 ∧ True := hd40
       obtain ⟨-, -, -, -, -, -, -, -, -, -, -, -, d78, -, -, -, -, d83, d84, -⟩ := hd40
       have hl50 := Le.no M2 hS40
       have hC50 := hC3.no hS40
       have hr49 := hw1.no hS40
       refine lw_sub (E' := [(35, (.bool true)), (40, undef), (41, undef), (0, v0p), (1, (.int .i64 a_top)), (5, v2), (6, (.int .i64 k1))]) ⟨(congrArg some d78), (congrArg some d83), (congrArg some d84), rfl, rfl, rfl, rfl, trivial⟩ ?_
       refine lw_off rfl rfl rfl rfl rfl rfl ?_
       refine lw_off rfl rfl rfl rfl rfl rfl ?_
       refine lw_op rfl rfl rfl (ow_pickT rfl rfl rfl ?_)
       refine lw_nil (ew_then (cw_true rfl ?_))
       refine cw_seq (cw_region (lw_op rfl rfl rfl (ow_buildSlice0 (R := RSpan) (e := 76) rfl (by kernel_rfl) hC50 fun p22 w50 M5 hr50 hb10 hl51 hC51 hM3 hat3 => ?_)))
       have hr51 := hr49.go hb10 (fun _ _ e => e) hl51 hM3
       refine lw_op rfl rfl rfl (ow_assign rfl rfl ?_)
       refine lw_nil (ew_then (cw_ret (ew_thenR (ew_blockR ?_))))
       refine ew_thenR (ew_thenR (ew_blockR ?_))
       refine ew_brkR ?_
       refine ew_thenR ?_
       have e12 := hR1 _ (Option.some.inj hb3).symm
       subst e12
       obtain rfl := Option.some.inj h
       exact ew_ret (res1 rfl (.tmp rfl)) ⟨_, rfl, ⟨M5, hr50, hC51⟩, hC51.bx⟩
    ·
     obtain rfl := hbb2.trans hc3
     refine cw_false rfl ?_
     refine cw_exit ?_
     refine ew_thenX ?_
     refine ew_thenX ?_
     refine ew_blockX ?_
     refine ew_brk (y1, k1) hb3 fun a ha => ⟨M2, v2, ?_, hl3, hC3, hw1⟩
     exact ha.sub ⟨rfl, rfl, rfl, rfl, trivial⟩
   ·
    rintro ⟨y2, k2⟩ a w51 hlr2 ⟨M6, v23, hF2, hl52, hC52, hw3⟩
    subst hlr2
    refine ew_at (E := [(0, v0p), (1, (.int .i64 a_top)), (5, v23), (6, (.int .i64 k2))]) hF2 ?_
    refine ew_then (cw_seq (cw_region (lw_op rfl rfl rfl (ow_move rfl rfl ?_))))
    refine lw_op rfl rfl rfl (ow_assign rfl rfl ?_)
    refine lw_nil (ew_then (cw_ret ?_))
    obtain rfl := Option.some.inj h
    exact ew_ret (res1 rfl (.tmp rfl)) ⟨_, rfl, ⟨M6, hw3, hC52⟩, hC52.bx⟩
 ·
  subst hc1
  refine lw_off rfl rfl rfl rfl rfl rfl ?_
  refine lw_off rfl rfl rfl rfl rfl rfl ?_
  refine lw_off rfl rfl rfl rfl rfl rfl ?_
  refine lw_op rfl rfl rfl (ow_pickT rfl rfl rfl ?_)
  refine lw_nil (ew_then (cw_true rfl ?_))
  refine cw_seq (cw_region (lw_op rfl rfl rfl (ow_move rfl rfl ?_)))
  refine lw_op rfl rfl rfl (ow_assign rfl rfl ?_)
  refine lw_nil (ew_then (cw_ret (ew_thenR ?_)))
  obtain rfl := Option.some.inj h
  exact ew_ret (res1 rfl (.tmp rfl)) ⟨_, rfl, ⟨M1, hr2, hC2⟩, hC2.bx⟩

theorem w_spec_l20Raw {w : World} {M : Nat → Prop} (hG : ARep (RArr 4 RShape) w M shapes ⟨0, 0, none⟩) (hO : ∀ b, M b → b < w.heap.size) {g : Nat} {Ax : Option Addr} {cx : Nat} {a_xs : List Int} {a_pos : Int} (hxs : VRep (RSlice RU8) w M a_xs (.slice Ax a_xs.length cx)) (hown : Own w g 98 #[.slice Ax a_xs.length cx, .int .i64 a_pos]) (hgM : M g) {a_top : Int} {a_n : Int} {r : ((List Span)) × Int} (h : F.spec_l20Raw a_xs a_pos a_top a_n = some r) :
  Calls Tryd.prog 113 [(.pointer (some ⟨g, 0, none⟩)), (.int .i64 a_top), (.int .i64 a_n)].toArray w fun e w' => ∃ v, e = .returned v ∧ (VRep (RSlice RSpan) w' M r.1 v ∧ Own w' g 98 #[.slice Ax a_xs.length cx, .int .i64 r.2]) ∧ BX (One g) w w' := by
 obtain ⟨i76, hi76, hz76, hs76, hy76⟩ := info76
 have hX : ∀ b, (One g) b → M b := fun b e => e ▸ hgM
 have hC : Cx (One g) w M w M := Cx.start hO hX
 refine walk (N := 24) Tryd.func113 rfl Tryd.ntmps113 rfl ?_
 refine cw_seq (cw_region (lw_op rfl rfl rfl (ow_assign rfl rfl ?_)))
 refine lw_nil (ew_then (cw_seq (cw_region (lw_op rfl rfl rfl (ow_buildSlice0 (R := RSpan) (e := 76) rfl (by kernel_rfl) hC fun p1 w1 M1 hr1 hb1 hl1 hC1 hM1 hat1 => ?_)))))
 have ho1 := hown.no hb1
 have hm1 := hM1 _ hgM
 refine lw_op rfl rfl rfl (ow_assign rfl rfl ?_)
 refine lw_nil (ew_then (cw_seq (cw_seq (cw_region (lw_op rfl rfl rfl (ow_move rfl rfl ?_))))))
 replace h := bind_some h
 obtain ⟨x1, hx1, h⟩ := h
 refine lw_op rfl rfl rfl (ow_call rfl rfl Tryd.call87 (w_spec_l20Rd_pick (hG.mono hl1) hC1.old (VRep.mono hl1 hxs) ho1 hm1 hx1) fun v1 w2 hv1 => ?_)
 obtain ⟨⟨hv1, ho2⟩, hb2⟩ := hv1
 have hl2 := Le.of_bx M1 hb2 (fun b e => (by rw [show b = g from e]; exact hm1))
 have hC2 := hC1.go hb2 (fun b e => Or.inr e)
 have hr2 := hr1.go hb2 (fun k hk e => (orow_ne hr1 ho1 (by decide)) (hk.trans (congrArg some e))) hl2 (fun _ h => h)
 obtain rfl := vint_eq hv1
 refine lw_op rfl rfl rfl (ow_assign rfl rfl ?_)
 refine lw_nil (ew_then ?_)
 replace h := bind_some h
 obtain ⟨lr1, hlr1, h⟩ := h
 refine cw_for hlr1 (fun s a w' => ∃ (M' : Nat → Prop) (v0c : Value), Fits 24 [(0, (.pointer (some ⟨g, 0, none⟩))), (1, (.int .i64 a_top)), (2, (.int .i64 a_n)), (7, v0c), (8, (.int .i64 s.2.1))] a ∧ Le w2 M1 w' M' ∧ Cx (One g) w M w' M' ∧ OwnRow RSpan w.heap.size 76 w' M' s.1 v0c ∧ Own w' g 98 #[(.slice Ax a_xs.length cx), (.int .i64 s.2.2)] ∧ M' g) ?_ ?_ ?_
 ·
  intro a ha
  exact ⟨M1, (.slice (some p1) 0 0), ha.sub ⟨rfl, rfl, rfl, rfl, rfl, trivial⟩, Le.refl _ _, hC2, hr2, ho2, hm1⟩
 ·
  rintro ⟨y1, k1, k2⟩ a w3 sr1 ⟨M2, v2, hF1, hl3, hC3, hw1, ho3, hm2⟩ hb3 hR1
  refine cw_at (E := [(0, (.pointer (some ⟨g, 0, none⟩))), (1, (.int .i64 a_top)), (2, (.int .i64 a_n)), (7, v2), (8, (.int .i64 k1))]) hF1 ?_
  refine cw_seq (cw_seq (cw_region (lw_op rfl rfl rfl (ow_move rfl rfl ?_))))
  refine lw_op rfl rfl rfl (ow_gtr rfl rfl rfl fun bb1 hbb1 => ?_)
  refine lw_nil (ew_then ?_)
  replace hb3 := cond_some hb3
  rcases hb3 with ⟨hc1, hb3⟩ | ⟨hc1, hb3⟩
  ·
   obtain rfl := hbb1.trans hc1
   refine cw_true rfl ?_
   refine cw_skip (ew_then (cw_seq (cw_block ?_)))
   refine cw_region (lw_op rfl rfl rfl (ow_move rfl rfl ?_))
   refine lw_op rfl rfl rfl (ow_move rfl rfl ?_)
   refine lw_op rfl rfl rfl (ow_move rfl rfl ?_)
   refine lw_op rfl rfl rfl (ow_move rfl rfl ?_)
   replace hb3 := bind_some hb3
   obtain ⟨x2, hx2, hb3⟩ := hb3
   refine lw_op rfl rfl rfl (ow_call rfl rfl Tryd.call109 (w_spec_l20Span (hG.mono ((hl1.trans hl2).trans hl3)) hC3.old (VRep.mono ((hl1.trans hl2).trans hl3) hxs) ho3 hm2 hx2) fun v5 w4 hv5 => ?_)
   obtain ⟨⟨hv5, ho4⟩, hb4⟩ := hv5
   have hl4 := Le.of_bx M2 hb4 (fun b e => (by rw [show b = g from e]; exact hm2))
   have hC4 := hC3.go hb4 (fun b e => Or.inr e)
   have hr3 := hw1.go hb4 (fun k hk e => (orow_ne hw1 ho3 (by decide)) (hk.trans (congrArg some e))) hl4 (fun _ h => h)
   obtain rfl := open_Span hv5
   refine lw_op rfl rfl rfl (ow_buildSlice (R := RSpan) (xs := [x2.1]) (cs := #[(.int .i64 x2.1.Lo), (.int .i64 x2.1.Hi)]) (e := 76) rfl rfl (by kernel_rfl) rfl rfl ⟨_, _, rfl, hv5.cells, rfl⟩ hC4 fun p2 w5 hw2 hb5 hl5 hC5 => ?_)
   have ho5 := ho4.no hb5
   have hr4 := hr3.no hb5
   replace hb3 := bind_some hb3
   obtain ⟨z1, hz1, hb3⟩ := hb3
   refine lw_op rfl rfl rfl (ow_append (R := RSpan) rfl rfl rfl rfl Tryd.underlying58 hi76 hz76 hs76 hy76 rfl rfl rfl rfl hr4 hw2 hz1 hC5 fun v6 w6 M3 hr5 hb6 hl6 hC6 hM2 hat2 => ?_)
   have ho6 := ho5.go hb6 (fun e => (orow_ne hr4 ho5 (by decide)) e)
   have hm3 := hM2 _ hm2
   refine lw_op rfl rfl rfl (ow_assign rfl rfl ?_)
   refine lw_nil (ew_blockN ?_)
   refine ew_then (cw_region (lw_op rfl rfl rfl (ow_move rfl rfl ?_)))
   refine lw_op rfl rfl rfl (ow_sub rfl rfl rfl ?_)
   refine lw_op rfl rfl rfl (ow_assign rfl rfl ?_)
   refine lw_nil (ew_nxt (z1, (W (k1 - 1)), x2.2) hb3 fun a ha => ⟨M3, v6, ?_, (((hl3.trans hl4).trans hl5).trans hl6), hC6, hr5, ho6, hm3⟩)
   exact ha.sub ⟨rfl, rfl, rfl, rfl, rfl, trivial⟩
  ·
   obtain rfl := hbb1.trans hc1
   refine cw_false rfl ?_
   refine cw_exit ?_
   refine ew_thenX ?_
   refine ew_thenX ?_
   refine ew_blockX ?_
   refine ew_brk (y1, k1, k2) hb3 fun a ha => ⟨M2, v2, ?_, hl3, hC3, hw1, ho3, hm2⟩
   exact ha.sub ⟨rfl, rfl, rfl, rfl, rfl, trivial⟩
 ·
  rintro ⟨y2, k3, k4⟩ a w7 hlr2 ⟨M4, v7, hF2, hl7, hC7, hw3, ho7, hm4⟩
  subst hlr2
  refine ew_at (E := [(0, (.pointer (some ⟨g, 0, none⟩))), (1, (.int .i64 a_top)), (2, (.int .i64 a_n)), (7, v7), (8, (.int .i64 k3))]) hF2 ?_
  refine ew_then (cw_seq (cw_region (lw_op rfl rfl rfl (ow_move rfl rfl ?_))))
  refine lw_op rfl rfl rfl (ow_assign rfl rfl ?_)
  refine lw_nil (ew_then (cw_ret ?_))
  obtain rfl := Option.some.inj h
  exact ew_ret (res1 rfl (.tmp rfl)) ⟨_, rfl, ⟨(hw3.freezeBack hC7 hO), ho7⟩, hC7.bx⟩

theorem w_spec_l20Set {w : World} {M : Nat → Prop} (hG : ARep (RArr 4 RShape) w M shapes ⟨0, 0, none⟩) (hO : ∀ b, M b → b < w.heap.size) {g : Nat} {Ax : Option Addr} {cx : Nat} {a_xs : List Int} {a_pos : Int} (hxs : VRep (RSlice RU8) w M a_xs (.slice Ax a_xs.length cx)) (hown : Own w g 98 #[.slice Ax a_xs.length cx, .int .i64 a_pos]) (hgM : M g) {a_top : Int} {a_n : Int} {r : ((List Span)) × Int} (h : F.spec_l20Set a_xs a_pos a_top a_n = some r) :
  Calls Tryd.prog 98 [(.pointer (some ⟨g, 0, none⟩)), (.int .i64 a_top), (.int .i64 a_n)].toArray w fun e w' => ∃ v, e = .returned v ∧ (VRep (RSlice RSpan) w' M r.1 v ∧ Own w' g 98 #[.slice Ax a_xs.length cx, .int .i64 r.2]) ∧ BX (One g) w w' := by
 obtain ⟨i76, hi76, hz76, hs76, hy76⟩ := info76
 have hX : ∀ b, (One g) b → M b := fun b e => e ▸ hgM
 have hC : Cx (One g) w M w M := Cx.start hO hX
 refine walk (N := 35) Tryd.func98 rfl Tryd.ntmps98 rfl ?_
 refine cw_seq (cw_region (lw_op rfl rfl rfl (ow_assign rfl rfl ?_)))
 refine lw_nil (ew_then (cw_seq (cw_region (lw_op rfl rfl rfl (ow_move rfl rfl ?_)))))
 refine lw_op rfl rfl rfl (ow_move rfl rfl ?_)
 replace h := bind_some h
 obtain ⟨x1, hx1, h⟩ := h
 refine lw_op rfl rfl rfl (ow_call rfl rfl Tryd.call113 (w_spec_l20Raw hG hC.old hxs hown hgM hx1) fun v1 w1 hv1 => ?_)
 obtain ⟨⟨hv1, ho1⟩, hb1⟩ := hv1
 have hl1 := Le.of_bx M hb1 (fun b e => (by rw [show b = g from e]; exact hgM))
 have hC1 := hC.go hb1 (fun b e => Or.inr e)
 refine lw_op rfl rfl rfl (ow_move rfl rfl ?_)
 replace h := bind_some h
 obtain ⟨x2, hx2, h⟩ := h
 refine lw_op rfl rfl rfl (ow_call rfl rfl Tryd.call112 (wo_spec_SpansOf (hG.mono hl1) hC1.old hv1 hx2) fun v2 w2 hv2 => ?_)
 obtain ⟨⟨M1, hr1, hk1⟩, hb2⟩ := hv2
 replace hr1 := hr1.base hC1.bx.size
 have hl2 := hk1.le
 have hC2 := hC1.trans hk1
 have ho2 := ho1.no hb2
 have hm1 := hk1.sup _ hgM
 refine lw_op rfl rfl rfl (ow_assign rfl rfl ?_)
 refine lw_nil (ew_then (cw_seq (cw_seq (cw_region (lw_op rfl rfl rfl (ow_move rfl rfl ?_))))))
 refine lw_op rfl rfl rfl (ow_move rfl rfl ?_)
 replace h := bind_some h
 obtain ⟨x3, hx3, h⟩ := h
 refine lw_op rfl rfl rfl (ow_call rfl rfl Tryd.call92 (w_spec_l20Rd_odd (hG.mono (hl1.trans hl2)) hC2.old (VRep.mono (hl1.trans hl2) hxs) ho2 hm1 hx3) fun v3 w3 hv3 => ?_)
 obtain ⟨⟨hv3, ho3⟩, hb3⟩ := hv3
 have hl3 := Le.of_bx M1 hb3 (fun b e => (by rw [show b = g from e]; exact hm1))
 have hC3 := hC2.go hb3 (fun b e => Or.inr e)
 have hr2 := hr1.go hb3 (fun k hk e => (orow_ne hr1 ho2 (by decide)) (hk.trans (congrArg some e))) hl3 (fun _ h => h)
 obtain ⟨bb1, hbb1, rfl⟩ := vbool_ex hv3
 refine lw_nil (ew_then ?_)
 replace h := cond_some h
 rcases h with ⟨hc1, h⟩ | ⟨hc1, h⟩
 ·
  obtain rfl := hbb1.trans hc1
  refine cw_true rfl ?_
  refine cw_seq (cw_region (lw_op rfl rfl rfl (ow_move rfl rfl ?_)))
  replace h := bind_some h
  obtain ⟨x4, hx4, h⟩ := h
  refine lw_op rfl rfl rfl (ow_call rfl rfl Tryd.call87 (w_spec_l20Rd_pick (hG.mono ((hl1.trans hl2).trans hl3)) hC3.old (VRep.mono ((hl1.trans hl2).trans hl3) hxs) ho3 hm1 hx4) fun v4 w4 hv4 => ?_)
  obtain ⟨⟨hv4, ho4⟩, hb4⟩ := hv4
  have hl4 := Le.of_bx M1 hb4 (fun b e => (by rw [show b = g from e]; exact hm1))
  have hC4 := hC3.go hb4 (fun b e => Or.inr e)
  have hr3 := hr2.go hb4 (fun k hk e => (orow_ne hr2 ho3 (by decide)) (hk.trans (congrArg some e))) hl4 (fun _ h => h)
  obtain rfl := vint_eq hv4
  refine lw_nil (ew_then (cw_block ?_))
  refine cw_seq (cw_region (lw_op rfl rfl rfl (ow_eqlI rfl rfl rfl fun bb2 hbb2 => ?_)))
  refine lw_op rfl rfl rfl (ow_assign rfl rfl ?_)
  refine lw_nil (ew_then ?_)
  replace h := cond_some h
  rcases h with ⟨hc2, h⟩ | ⟨hc2, h⟩
  ·
   obtain rfl := hbb2.trans hc2
   refine cw_true rfl ?_
   refine cw_region (lw_op rfl rfl rfl (ow_move rfl rfl ?_))
   refine lw_op rfl rfl rfl (ow_move rfl rfl ?_)
   refine lw_op rfl rfl rfl (ow_move rfl rfl ?_)
   replace h := bind_some h
   obtain ⟨x5, hx5, h⟩ := h
   refine lw_op rfl rfl rfl (ow_call rfl rfl Tryd.call109 (w_spec_l20Span (hG.mono (((hl1.trans hl2).trans hl3).trans hl4)) hC4.old (VRep.mono (((hl1.trans hl2).trans hl3).trans hl4) hxs) ho4 hm1 hx5) fun v5 w5 hv5 => ?_)
   obtain ⟨⟨hv5, ho5⟩, hb5⟩ := hv5
   have hl5 := Le.of_bx M1 hb5 (fun b e => (by rw [show b = g from e]; exact hm1))
   have hC5 := hC4.go hb5 (fun b e => Or.inr e)
   have hr4 := hr3.go hb5 (fun k hk e => (orow_ne hr3 ho4 (by decide)) (hk.trans (congrArg some e))) hl5 (fun _ h => h)
   obtain rfl := open_Span hv5
   refine lw_op rfl rfl rfl (ow_buildSlice (R := RSpan) (xs := [x5.1]) (cs := #[(.int .i64 x5.1.Lo), (.int .i64 x5.1.Hi)]) (e := 76) rfl rfl (by kernel_rfl) rfl rfl ⟨_, _, rfl, hv5.cells, rfl⟩ hC5 fun p1 w6 hw1 hb6 hl6 hC6 => ?_)
   have ho6 := ho5.no hb6
   have hr5 := hr4.no hb6
   replace h := bind_some h
   obtain ⟨z1, hz1, h⟩ := h
   refine lw_op rfl rfl rfl (ow_append (R := RSpan) rfl rfl rfl rfl Tryd.underlying58 hi76 hz76 hs76 hy76 rfl rfl rfl rfl hr5 hw1 hz1 hC6 fun v6 w7 M2 hr6 hb7 hl7 hC7 hM1 hat1 => ?_)
   have ho7 := ho6.go hb7 (fun e => (orow_ne hr5 ho6 (by decide)) e)
   have hm2 := hM1 _ hm1
   refine lw_op rfl rfl rfl (ow_assign rfl rfl ?_)
   refine lw_nil (ew_blockN ?_)
   refine ew_then (cw_seq (cw_region (lw_op rfl rfl rfl (ow_move rfl rfl ?_))))
   refine lw_op rfl rfl rfl (ow_assign rfl rfl ?_)
   refine lw_nil (ew_then (cw_ret ?_))
   obtain rfl := Option.some.inj h
   exact ew_ret (res1 rfl (.tmp rfl)) ⟨_, rfl, ⟨(hr6.freezeBack hC7 hO), ho7⟩, hC7.bx⟩
  ·
   obtain rfl := hbb2.trans hc2
   refine cw_false rfl ?_
   refine cw_seq (cw_region (lw_op rfl rfl rfl (ow_eqlI rfl rfl rfl fun bb3 hbb3 => ?_)))
   refine lw_op rfl rfl rfl (ow_assign rfl rfl ?_)
   refine lw_nil (ew_then ?_)
   replace h := cond_some h
   rcases h with ⟨hc3, h⟩ | ⟨hc3, h⟩
   ·
    obtain rfl := hbb3.trans hc3
    refine cw_true rfl ?_
    refine cw_region (lw_op rfl rfl rfl (ow_move rfl rfl ?_))
    refine lw_op rfl rfl rfl (ow_build (v := .agg #[(.int .i64 1), (.int .i64 2)]) rfl rfl (by kernel_rfl) ?_)
    have hw2 : VRep RSpan w4 M1 ({ Lo := 1, Hi := 2 } : Span) (.agg #[(.int .i64 1), (.int .i64 2)]) := shut_Span
    refine lw_op rfl rfl rfl (ow_build (v := .agg #[(.int .i64 3), (.int .i64 3)]) rfl rfl (by kernel_rfl) ?_)
    have hw3 : VRep RSpan w4 M1 ({ Lo := 3, Hi := 3 } : Span) (.agg #[(.int .i64 3), (.int .i64 3)]) := shut_Span
    refine lw_op rfl rfl rfl (ow_buildSlice (R := RSpan) (xs := [({ Lo := 1, Hi := 2 } : Span), ({ Lo := 3, Hi := 3 } : Span)]) (cs := #[(.int .i64 1), (.int .i64 2), (.int .i64 3), (.int .i64 3)]) (e := 76) rfl rfl (by kernel_rfl) rfl rfl ⟨_, _, rfl, hw2.cells, _, _, rfl, hw3.cells, rfl⟩ hC4 fun p2 w8 hw4 hb8 hl8 hC8 => ?_)
    have ho8 := ho4.no hb8
    have hr7 := hr3.no hb8
    replace h := bind_some h
    obtain ⟨z2, hz2, h⟩ := h
    refine lw_op rfl rfl rfl (ow_append (R := RSpan) rfl rfl rfl rfl Tryd.underlying58 hi76 hz76 hs76 hy76 rfl rfl rfl rfl hr7 hw4 hz2 hC8 fun v7 w9 M3 hr8 hb9 hl9 hC9 hM2 hat2 => ?_)
    have ho9 := ho8.go hb9 (fun e => (orow_ne hr7 ho8 (by decide)) e)
    have hm3 := hM2 _ hm1
    refine lw_op rfl rfl rfl (ow_assign rfl rfl ?_)
    refine lw_nil (ew_blockN ?_)
    refine ew_then (cw_seq (cw_region (lw_op rfl rfl rfl (ow_move rfl rfl ?_))))
    refine lw_op rfl rfl rfl (ow_assign rfl rfl ?_)
    refine lw_nil (ew_then (cw_ret ?_))
    obtain rfl := Option.some.inj h
    exact ew_ret (res1 rfl (.tmp rfl)) ⟨_, rfl, ⟨(hr8.freezeBack hC9 hO), ho9⟩, hC9.bx⟩
   ·
    obtain rfl := hbb3.trans hc3
    refine cw_false rfl ?_
    refine cw_region ?_
    replace h := bind_some h
    obtain ⟨mk1, hmk1, h⟩ := h
    refine lw_op rfl rfl rfl (ow_make (R := RSpan) rfl rfl rfl Tryd.underlying58 hi76 hz76 hs76 hy76 rfl rfl (shut_Span) hmk1 hC4 fun v8 w10 M4 hr9 hb10 hl10 hC10 hM3 hat3 => ?_)
    have ho10 := ho4.no hb10
    have hm4 := hM3 _ hm1
    have hr10 := hr3.go hb10 (fun _ _ e => e) hl10 hM3
    refine lw_op rfl rfl rfl (ow_assign rfl rfl ?_)
    refine lw_nil (ew_blockN ?_)
    refine ew_then (cw_seq (cw_region (lw_op rfl rfl rfl (ow_move rfl rfl ?_))))
    refine lw_op rfl rfl rfl (ow_assign rfl rfl ?_)
    refine lw_nil (ew_then (cw_ret ?_))
    obtain rfl := Option.some.inj h
    exact ew_ret (res1 rfl (.tmp rfl)) ⟨_, rfl, ⟨(hr9.freezeBack hC10 hO), ho10⟩, hC10.bx⟩
 ·
  obtain rfl := hbb1.trans hc1
  refine cw_false rfl ?_
  refine cw_skip (ew_then (cw_seq (cw_region (lw_op rfl rfl rfl (ow_move rfl rfl ?_)))))
  refine lw_op rfl rfl rfl (ow_assign rfl rfl ?_)
  refine lw_nil (ew_then (cw_ret ?_))
  obtain rfl := Option.some.inj h
  exact ew_ret (res1 rfl (.tmp rfl)) ⟨_, rfl, ⟨(hr2.freezeBack hC3 hO), ho3⟩, hC3.bx⟩

theorem w_spec_l20Box {w : World} {M : Nat → Prop} (hG : ARep (RArr 4 RShape) w M shapes ⟨0, 0, none⟩) (hO : ∀ b, M b → b < w.heap.size) {g : Nat} {Ax : Option Addr} {cx : Nat} {a_xs : List Int} {a_pos : Int} (hxs : VRep (RSlice RU8) w M a_xs (.slice Ax a_xs.length cx)) (hown : Own w g 98 #[.slice Ax a_xs.length cx, .int .i64 a_pos]) (hgM : M g) {a_n : Int} {r : Box × Int} (h : F.spec_l20Box a_xs a_pos a_n = some r) :
  Calls Tryd.prog 73 [(.pointer (some ⟨g, 0, none⟩)), (.int .i64 a_n)].toArray w fun e w' => ∃ v, e = .returned v ∧ (VRep RBox w' M r.1 v ∧ Own w' g 98 #[.slice Ax a_xs.length cx, .int .i64 r.2]) ∧ BX (One g) w w' := by
 obtain ⟨i58, hi58, hz58, hs58, hy58⟩ := info58
 have hX : ∀ b, (One g) b → M b := fun b e => e ▸ hgM
 have hC : Cx (One g) w M w M := Cx.start hO hX
 refine walk (N := 48) Tryd.func73 rfl Tryd.ntmps73 rfl ?_
 refine cw_seq (cw_region (lw_op rfl rfl rfl (ow_alloc rfl (Tryd.zeroValue27 _) hC fun g1 w1 hg1 hg2 ho1 hb1 hl1 hC1 => ?_)))
 have hn1 := Nat.ne_of_lt (Nat.lt_of_lt_of_le hown.lt hg1)
 have ho2 := hown.no hb1
 have hm1 : (Add g1 M) g := .inr hgM
 have hm2 : (Add g1 M) g1 := .inl rfl
 refine lw_nil (ew_then (cw_seq (cw_region (lw_op rfl rfl rfl (ow_move rfl rfl ?_)))))
 replace h := bind_some h
 obtain ⟨x1, hx1, h⟩ := h
 refine lw_op rfl rfl rfl (ow_call rfl rfl Tryd.call53 (w_spec_l20Tests (hG.mono hl1) hC1.old (VRep.mono hl1 hxs) ho2 hm1 hx1) fun v1 w2 hv1 => ?_)
 obtain ⟨⟨hv1, ho3⟩, hb2⟩ := hv1
 have hl2 := Le.of_bx (Add g1 M) hb2 (fun b e => (by rw [show b = g from e]; exact hm1))
 have hC2 := hC1.go hb2 (fun b e => Or.inr e)
 have ho4 := ho1.go hb2 (fun e => hn1 e.symm)
 replace h := bind_some h
 obtain ⟨x2, hx2, h⟩ := h
 refine lw_op rfl rfl rfl (ow_call rfl rfl Tryd.call18 (wo_spec_TestsBox (hG.mono (hl1.trans hl2)) hC2.old hv1 hx2) fun v2 w3 hv2 => ?_)
 obtain ⟨⟨M1, v3, rfl, hr1, hk1⟩, hb3⟩ := hv2
 replace hr1 := hr1.base hC2.bx.size
 have hl3 := hk1.le
 have hC3 := hC2.trans hk1
 have ho5 := ho3.no hb3
 have hm3 := hk1.sup _ hm1
 have ho6 := ho4.no hb3
 have hm4 := hk1.sup _ hm2
 obtain ⟨A1, c1, rfl⟩ := hr1.len
 refine lw_op rfl rfl rfl (ow_alloc rfl (Tryd.zeroValue27 _) hC3 fun g2 w4 hg3 hg4 ho7 hb4 hl4 hC4 => ?_)
 have hn2 := Nat.ne_of_lt (Nat.lt_of_lt_of_le ho5.lt hg3)
 have ho8 := ho5.no hb4
 have hm5 : (Add g2 M1) g := .inr hm3
 have hn3 := Nat.ne_of_lt (Nat.lt_of_lt_of_le ho6.lt hg3)
 have ho9 := ho6.no hb4
 have hm6 : (Add g2 M1) g1 := .inr hm4
 have hr2 := hr1.add hb4 hg3
 have hm7 : (Add g2 M1) g2 := .inl rfl
 refine lw_op0 rfl rfl (ow_store (X := (One g)) (us := [(.slice A1 x2.Sides.length c1)]) (cs' := #[(.slice A1 x2.Sides.length c1)]) rfl rfl rfl rfl ho7 (Tryd.sizeOf27 _) rfl rfl rfl rfl hm7 (.inl hg4) rfl hC4 fun w5 ho10 hb5 hl5 hC5 => ?_)
 have ho11 := ho8.go hb5 (fun e => hn2 e)
 have ho12 := ho9.go hb5 (fun e => hn3 e)
 have hr3 := hr2.go hb5 (fun k hk e => (orow_ne hr2 ho7 (by decide)) (hk.trans (congrArg some e))) hl5 (fun _ h => h)
 refine lw_nil (ew_then (cw_seq (cw_seq (cw_region (lw_op rfl rfl rfl (ow_move rfl rfl ?_))))))
 replace h := bind_some h
 obtain ⟨x3, hx3, h⟩ := h
 refine lw_op rfl rfl rfl (ow_call rfl rfl Tryd.call87 (w_spec_l20Rd_pick (hG.mono ((((hl1.trans hl2).trans hl3).trans hl4).trans hl5)) hC5.old (VRep.mono ((((hl1.trans hl2).trans hl3).trans hl4).trans hl5) hxs) ho11 hm5 hx3) fun v4 w6 hv4 => ?_)
 obtain ⟨⟨hv4, ho13⟩, hb6⟩ := hv4
 have hl6 := Le.of_bx (Add g2 M1) hb6 (fun b e => (by rw [show b = g from e]; exact hm5))
 have hC6 := hC5.go hb6 (fun b e => Or.inr e)
 have ho14 := ho12.go hb6 (fun e => hn1 e.symm)
 have ho15 := ho10.go hb6 (fun e => hn2 e.symm)
 have hr4 := hr3.go hb6 (fun k hk e => (orow_ne hr3 ho11 (by decide)) (hk.trans (congrArg some e))) hl6 (fun _ h => h)
 obtain rfl := vint_eq hv4
 refine lw_op rfl rfl rfl (ow_eqlI rfl rfl rfl fun bb1 hbb1 => ?_)
 refine lw_nil (ew_then ?_)
 replace h := cond_some h
 rcases h with ⟨hc1, h⟩ | ⟨hc1, h⟩
 ·
  obtain rfl := hbb1.trans hc1
  refine cw_true rfl ?_
  refine cw_seq (cw_region (lw_op rfl rfl rfl (ow_move rfl rfl ?_)))
  replace h := bind_some h
  obtain ⟨x4, hx4, h⟩ := h
  refine lw_op rfl rfl rfl (ow_call rfl rfl Tryd.call87 (w_spec_l20Rd_pick (hG.mono (((((hl1.trans hl2).trans hl3).trans hl4).trans hl5).trans hl6)) hC6.old (VRep.mono (((((hl1.trans hl2).trans hl3).trans hl4).trans hl5).trans hl6) hxs) ho13 hm5 hx4) fun v5 w7 hv5 => ?_)
  obtain ⟨⟨hv5, ho16⟩, hb7⟩ := hv5
  have hl7 := Le.of_bx (Add g2 M1) hb7 (fun b e => (by rw [show b = g from e]; exact hm5))
  have hC7 := hC6.go hb7 (fun b e => Or.inr e)
  have ho17 := ho14.go hb7 (fun e => hn1 e.symm)
  have ho18 := ho15.go hb7 (fun e => hn2 e.symm)
  have hr5 := hr4.go hb7 (fun k hk e => (orow_ne hr4 ho13 (by decide)) (hk.trans (congrArg some e))) hl7 (fun _ h => h)
  obtain rfl := vint_eq hv5
  refine lw_op rfl rfl rfl (ow_assign rfl rfl ?_)
  refine lw_nil (ew_then ?_)
  replace h := bind_some h
  obtain ⟨x5, hx5, h⟩ := h
  replace h := bind_some h
  obtain ⟨x6, hx6, h⟩ := h
  refine cw_sub (E' := [(0, (.pointer (some ⟨g, 0, none⟩))), (1, (.int .i64 a_n)), (4, (.pointer (some ⟨g1, 0, none⟩))), (5, (.pointer (some ⟨g2, 0, none⟩))), (6, (.int .i64 x4.1))]) ⟨rfl, rfl, rfl, rfl, rfl, trivial⟩ ?_
  refine cw_drawC (g := g) (T := 98) 7 1 [none, none, none, none, none, none, some 0] [#[(.slice Ax a_xs.length cx), (.int .i64 x4.2)], #[(.slice Ax a_xs.length cx), (.int .i64 x6.2)]] [PEq (.pointer (some ⟨g2, 0, none⟩)), PEq (.slice A1 x2.Sides.length c1), PEq (.int .i64 x4.1), PEq (.pointer (some ⟨g, 0, none⟩)), PEq (.int .i64 x4.1), PEq (.int .i64 x5), PV (RSlice RSpan) (Add g2 M1) x6.1] (by kernel_rfl) rfl (by kernel_rfl) (by kernel_rfl) ho16 ⟨(PEq.monoY hm5 _), (PEq.monoY hm5 _), (PEq.monoY hm5 _), (PEq.monoY hm5 _), (PEq.monoY hm5 _), (PEq.monoY hm5 _), (PV.monoY hm5 _ _), trivial⟩ ⟨?_, ?_, ?_, ?_, ?_, ?_, ?_, trivial⟩ ?_
  ·
   intro w10 D hS1 hd1
   have hl10 := leY hm5 hS1
   have hC10 := hC7.go hS1 (fun b e => Or.inr e)
   have ho25 := ho17.go hS1 (fun e => hn1 e.symm)
   have ho26 := ho18.go hS1 (fun e => hn2 e.symm)
   have hr8 := hr5.go hS1 (fun k hk e => (orow_ne hr5 ho16 (by decide)) (hk.trans (congrArg some e))) hl10 (fun _ h => h)
   refine dg_sub (E' := [(5, (.pointer (some ⟨g2, 0, none⟩)))]) ⟨rfl, trivial⟩ ?_
   refine dg_plain rfl (ow_fieldAddr rfl rfl Tryd.underlying27 rfl (Tryd.sizeOf25 _) ?_)
   exact ⟨BX.refl _ _, rfl⟩
  ·
   intro w11 D hS2 hd2
   have hl11 := leY hm5 hS2
   have hC11 := hC7.go hS2 (fun b e => Or.inr e)
   have ho27 := ho17.go hS2 (fun e => hn1 e.symm)
   have ho28 := ho18.go hS2 (fun e => hn2 e.symm)
   have hr9 := hr5.go hS2 (fun k hk e => (orow_ne hr5 ho16 (by decide)) (hk.trans (congrArg some e))) hl11 (fun _ h => h)
   have hd2 : PEq (.pointer (some ⟨g2, 0, none⟩)) (D 0) w11 ∧ True := hd2
   obtain ⟨d1, -⟩ := hd2
   refine dg_sub (E' := [(15, (.pointer (some ⟨g2, 0, none⟩)))]) ⟨(congrArg some d1), trivial⟩ ?_
   refine dg_plain rfl (ow_loadOwn1 rfl rfl rfl ho28 (Tryd.isAgg25 _) rfl ?_)
   exact ⟨BX.refl _ _, rfl⟩
  ·
   intro w12 D hS3 hd3
   have hl12 := leY hm5 hS3
   have hC12 := hC7.go hS3 (fun b e => Or.inr e)
   have ho29 := ho17.go hS3 (fun e => hn1 e.symm)
   have ho30 := ho18.go hS3 (fun e => hn2 e.symm)
   have hr10 := hr5.go hS3 (fun k hk e => (orow_ne hr5 ho16 (by decide)) (hk.trans (congrArg some e))) hl12 (fun _ h => h)
   refine dg_sub (E' := [(6, (.int .i64 x4.1))]) ⟨rfl, trivial⟩ ?_
   refine dg_plain rfl (ow_move rfl rfl ?_)
   exact ⟨BX.refl _ _, rfl⟩
  ·
   intro w13 D hS4 hd4
   have hl13 := leY hm5 hS4
   have hC13 := hC7.go hS4 (fun b e => Or.inr e)
   have ho31 := ho17.go hS4 (fun e => hn1 e.symm)
   have ho32 := ho18.go hS4 (fun e => hn2 e.symm)
   have hr11 := hr5.go hS4 (fun k hk e => (orow_ne hr5 ho16 (by decide)) (hk.trans (congrArg some e))) hl13 (fun _ h => h)
   refine dg_sub (E' := [(0, (.pointer (some ⟨g, 0, none⟩)))]) ⟨rfl, trivial⟩ ?_
   refine dg_plain rfl (ow_move rfl rfl ?_)
   exact ⟨BX.refl _ _, rfl⟩
  ·
   intro w14 D hS5 hd5
   have hl14 := leY hm5 hS5
   have hC14 := hC7.go hS5 (fun b e => Or.inr e)
   have ho33 := ho17.go hS5 (fun e => hn1 e.symm)
   have ho34 := ho18.go hS5 (fun e => hn2 e.symm)
   have hr12 := hr5.go hS5 (fun k hk e => (orow_ne hr5 ho16 (by decide)) (hk.trans (congrArg some e))) hl14 (fun _ h => h)
   refine dg_sub (E' := [(6, (.int .i64 x4.1))]) ⟨rfl, trivial⟩ ?_
   refine dg_plain rfl (ow_move rfl rfl ?_)
   exact ⟨BX.refl _ _, rfl⟩
  ·
   intro w15 D hS6 hd6
   have hl15 := leY hm5 hS6
   have hC15 := hC7.go hS6 (fun b e => Or.inr e)
   have ho35 := ho17.go hS6 (fun e => hn1 e.symm)
   have ho36 := ho18.go hS6 (fun e => hn2 e.symm)
   have hr13 := hr5.go hS6 (fun k hk e => (orow_ne hr5 ho16 (by decide)) (hk.trans (congrArg some e))) hl15 (fun _ h => h)
   have hd6 : PEq (.int .i64 x4.1) (D 4) w15 ∧ True := hd6
   obtain ⟨d2, -⟩ := hd6
   refine dg_sub (E' := [(19, (.int .i64 x4.1))]) ⟨(congrArg some d2), trivial⟩ ?_
   refine dg_plain rfl (ow_call rfl rfl Tryd.call81 (w_spec_FieldTop (hG.mono (((((((hl1.trans hl2).trans hl3).trans hl4).trans hl5).trans hl6).trans hl7).trans hl15)) hC15.old hx5) fun v8 w16 hv8 => ?_)
   obtain ⟨hv8, hb10⟩ := hv8
   have hl16 := Le.no (Add g2 M1) hb10
   have hC16 := hC15.no hb10
   have ho37 := ho35.no hb10
   have ho38 := ho36.no hb10
   have hr14 := hr13.no hb10
   obtain rfl := vint_eq hv8
   exact ⟨hb10, rfl⟩
  ·
   intro w17 D hS7 hd7
   obtain ⟨hS7, ho39⟩ := hS7
   have ho39 : Own w17 g 98 #[(.slice Ax a_xs.length cx), (.int .i64 x4.2)] := ho39
   have hl17 := leY hm5 hS7
   have hC17 := hC7.go hS7 (fun b e => Or.inr e)
   have ho40 := ho17.go hS7 (fun e => hn1 e.symm)
   have ho41 := ho18.go hS7 (fun e => hn2 e.symm)
   have hr15 := hr5.go hS7 (fun k hk e => (orow_ne hr5 ho16 (by decide)) (hk.trans (congrArg some e))) hl17 (fun _ h => h)
   have hd7 : PEq (.pointer (some ⟨g, 0, none⟩)) (D 3) w17 ∧ PEq (.int .i64 x5) (D 5) w17 ∧ PEq (.int .i64 x5) (D 5) w17 ∧ True := hd7
   obtain ⟨d3, d4, d5, -⟩ := hd7
   refine dg_sub (E' := [(18, (.pointer (some ⟨g, 0, none⟩))), (20, (.int .i64 x5))]) ⟨(congrArg some d3), (congrArg some d4), trivial⟩ ?_
   refine dg_plain rfl (ow_call rfl rfl Tryd.call98 (w_spec_l20Set (hG.mono (((((((hl1.trans hl2).trans hl3).trans hl4).trans hl5).trans hl6).trans hl7).trans hl17)) hC17.old (VRep.mono (((((((hl1.trans hl2).trans hl3).trans hl4).trans hl5).trans hl6).trans hl7).trans hl17) hxs) ho39 hm5 hx6) fun v9 w18 hv9 => ?_)
   obtain ⟨⟨hv9, ho42⟩, hb11⟩ := hv9
   have hl18 := Le.of_bx (Add g2 M1) hb11 (fun b e => (by rw [show b = g from e]; exact hm5))
   have hC18 := hC17.go hb11 (fun b e => Or.inr e)
   have ho43 := ho40.go hb11 (fun e => hn1 e.symm)
   have ho44 := ho41.go hb11 (fun e => hn2 e.symm)
   have hr16 := hr15.go hb11 (fun k hk e => (orow_ne hr15 ho39 (by decide)) (hk.trans (congrArg some e))) hl18 (fun _ h => h)
   exact ⟨⟨⟨hS7.trans hb11, ho42⟩, hb11⟩, hv9⟩
  ·
   intro w19 D hS8 hd8
   have hd8 : PEq (.pointer (some ⟨g2, 0, none⟩)) (D 0) w19 ∧ PEq (.slice A1 x2.Sides.length c1) (D 1) w19 ∧ PEq (.int .i64 x4.1) (D 2) w19 ∧ PEq (.pointer (some ⟨g, 0, none⟩)) (D 3) w19 ∧ PEq (.int .i64 x4.1) (D 4) w19 ∧ PEq (.int .i64 x5) (D 5) w19 ∧ PV (RSlice RSpan) (Add g2 M1) x6.1 (D 6) w19 ∧ True := hd8
   obtain ⟨-, d7, d8, -, -, -, d12, -⟩ := hd8
   obtain ⟨hS8, ho45⟩ := hS8
   have ho45 : Own w19 g 98 #[(.slice Ax a_xs.length cx), (.int .i64 x6.2)] := ho45
   have hl19 := leY hm5 hS8
   have hC19 := hC7.go hS8 (fun b e => Or.inr e)
   have ho46 := ho17.go hS8 (fun e => hn1 e.symm)
   have ho47 := ho18.go hS8 (fun e => hn2 e.symm)
   have hr17 := hr5.go hS8 (fun k hk e => (orow_ne hr5 ho16 (by decide)) (hk.trans (congrArg some e))) hl19 (fun _ h => h)
   obtain ⟨v10, hq1⟩ : ∃ v, (D 6) = v := ⟨_, rfl⟩
   rw [hq1] at d12
   refine lw_sub (E' := [(16, (.slice A1 x2.Sides.length c1)), (17, (.int .i64 x4.1)), (21, v10), (0, (.pointer (some ⟨g, 0, none⟩))), (1, (.int .i64 a_n)), (4, (.pointer (some ⟨g1, 0, none⟩))), (5, (.pointer (some ⟨g2, 0, none⟩))), (6, (.int .i64 x4.1))]) ⟨(congrArg some d7), (congrArg some d8), (congrArg some hq1), rfl, rfl, rfl, rfl, rfl, trivial⟩ ?_
   replace h := bind_some h
   obtain ⟨x7, hx7, h⟩ := h
   refine lw_op rfl rfl rfl (ow_indexRow (R := (RSlice RSpan)) rfl rfl rfl hr17 Tryd.underlying25 (Tryd.sizeOf58 _) hx7 ?_)
   refine lw_op0 rfl rfl (ow_storeElRow (X := (One g)) (R := (RSlice RSpan)) (S := (RSlice RSpan)) rfl rfl rfl rfl hr17 (orow_blk hr17 hx7) hx7 (FldSet.whole (RSlice RSpan)) (Tryd.sizeOf58 _) d12 (Nat.le_refl _) hC19 fun w20 ho48 hb12 hl20 hC20 => ?_)
   have ho49 := ho45.go hb12 (fun e => (orow_ne hr17 ho45 (by decide)) (by rw [orow_blk hr17 hx7]; exact congrArg some e.symm))
   have ho50 := ho46.go hb12 (fun e => (orow_ne hr17 ho46 (by decide)) (by rw [orow_blk hr17 hx7]; exact congrArg some e.symm))
   have ho51 := ho47.go hb12 (fun e => (orow_ne hr17 ho47 (by decide)) (by rw [orow_blk hr17 hx7]; exact congrArg some e.symm))
   refine lw_nil (ew_then (cw_seq (cw_seq (cw_region (lw_op rfl rfl rfl (ow_move rfl rfl ?_))))))
   refine lw_op rfl rfl rfl (ow_move rfl rfl ?_)
   replace h := bind_some h
   obtain ⟨x8, hx8, h⟩ := h
   refine lw_op rfl rfl rfl (ow_call rfl rfl Tryd.call92 (w_spec_l20Rd_odd (hG.mono ((((((((hl1.trans hl2).trans hl3).trans hl4).trans hl5).trans hl6).trans hl7).trans hl19).trans hl20)) hC20.old (VRep.mono ((((((((hl1.trans hl2).trans hl3).trans hl4).trans hl5).trans hl6).trans hl7).trans hl19).trans hl20) hxs) ho49 hm5 hx8) fun v11 w21 hv11 => ?_)
   obtain ⟨⟨hv11, ho52⟩, hb13⟩ := hv11
   have hl21 := Le.of_bx (Add g2 M1) hb13 (fun b e => (by rw [show b = g from e]; exact hm5))
   have hC21 := hC20.go hb13 (fun b e => Or.inr e)
   have ho53 := ho50.go hb13 (fun e => hn1 e.symm)
   have ho54 := ho51.go hb13 (fun e => hn2 e.symm)
   have hr18 := ho48.go hb13 (fun k hk e => (orow_ne ho48 ho49 (by decide)) (hk.trans (congrArg some e))) hl21 (fun _ h => h)
   obtain ⟨bb2, hbb2, rfl⟩ := vbool_ex hv11
   refine lw_nil (ew_then ?_)
   replace h := cond_some h
   rcases h with ⟨hc2, h⟩ | ⟨hc2, h⟩
   ·
    obtain rfl := hbb2.trans hc2
    refine cw_true rfl ?_
    refine cw_seq (cw_region (lw_op rfl rfl rfl (ow_move rfl rfl ?_)))
    replace h := bind_some h
    obtain ⟨x9, hx9, h⟩ := h
    refine lw_op rfl rfl rfl (ow_call rfl rfl Tryd.call87 (w_spec_l20Rd_pick (hG.mono (((((((((hl1.trans hl2).trans hl3).trans hl4).trans hl5).trans hl6).trans hl7).trans hl19).trans hl20).trans hl21)) hC21.old (VRep.mono (((((((((hl1.trans hl2).trans hl3).trans hl4).trans hl5).trans hl6).trans hl7).trans hl19).trans hl20).trans hl21) hxs) ho52 hm5 hx9) fun v12 w22 hv12 => ?_)
    obtain ⟨⟨hv12, ho55⟩, hb14⟩ := hv12
    have hl22 := Le.of_bx (Add g2 M1) hb14 (fun b e => (by rw [show b = g from e]; exact hm5))
    have hC22 := hC21.go hb14 (fun b e => Or.inr e)
    have ho56 := ho53.go hb14 (fun e => hn1 e.symm)
    have ho57 := ho54.go hb14 (fun e => hn2 e.symm)
    have hr19 := hr18.go hb14 (fun k hk e => (orow_ne hr18 ho52 (by decide)) (hk.trans (congrArg some e))) hl22 (fun _ h => h)
    obtain rfl := vint_eq hv12
    refine lw_nil (ew_then (cw_block ?_))
    refine cw_seq (cw_region (lw_op rfl rfl rfl (ow_eqlI rfl rfl rfl fun bb3 hbb3 => ?_)))
    refine lw_op rfl rfl rfl (ow_assign rfl rfl ?_)
    refine lw_nil (ew_then ?_)
    replace h := cond_some h
    rcases h with ⟨hc3, h⟩ | ⟨hc3, h⟩
    ·
     obtain rfl := hbb3.trans hc3
     refine cw_true rfl ?_
     refine cw_region (lw_op rfl rfl rfl (ow_fieldAddr rfl rfl Tryd.underlying27 rfl (Tryd.sizeOf25 _) ?_))
     refine lw_op rfl rfl rfl (ow_loadOwn1 rfl rfl rfl ho57 (Tryd.isAgg25 _) rfl ?_)
     have hw1 := hr19.freezeDel
     have hC23 := hr19.cxDel hC22 hX hO
     have hl23 := Le.del w22 (Add g2 M1) (.slice A1 x2.Sides.length c1)
     have hm8 : (Del (.slice A1 x2.Sides.length c1) (Add g2 M1)) g := ⟨hm5, fun e => (orow_ne hr19 ho55 (by decide)) e⟩
     have hm9 : (Del (.slice A1 x2.Sides.length c1) (Add g2 M1)) g1 := ⟨hm6, fun e => (orow_ne hr19 ho56 (by decide)) e⟩
     have hm10 : (Del (.slice A1 x2.Sides.length c1) (Add g2 M1)) g2 := ⟨hm7, fun e => (orow_ne hr19 ho57 (by decide)) e⟩
     replace h := bind_some h
     obtain ⟨y1, hy1, h⟩ := h
     refine lw_op rfl rfl rfl (ow_sliceFrom (R := (RSlice RSpan)) rfl rfl rfl hw1 Tryd.underlying25 (Tryd.sizeOf58 _) (dropF_some hy1).2 fun v13 hv13 => ?_)
     rw [← (dropF_some hy1).1] at hv13
     refine lw_op rfl rfl rfl (ow_fieldAddr rfl rfl Tryd.underlying27 rfl (Tryd.sizeOf25 _) ?_)
     obtain ⟨A2, c2, rfl, -⟩ := vslice_shape hv13
     refine lw_op0 rfl rfl (ow_store (X := (One g)) (us := [(.slice A2 y1.length c2)]) (cs' := #[(.slice A2 y1.length c2)]) rfl rfl rfl rfl ho57 (Tryd.sizeOf25 _) rfl rfl rfl rfl hm10 (.inl hg4) rfl hC23 fun w23 ho58 hb15 hl24 hC24 => ?_)
     have ho59 := ho55.go hb15 (fun e => hn2 e)
     have ho60 := ho56.go hb15 (fun e => hn3 e)
     refine lw_nil (ew_blockN ?_)
     refine ew_then (cw_seq (cw_region (lw_op rfl rfl rfl (ow_loadOwnA rfl rfl rfl ho58 (Tryd.isAgg27 _) (Tryd.sizeOf27 _) rfl ?_))))
     have hw2 : VRep RBox w23 (Del (.slice A1 x2.Sides.length c1) (Add g2 M1)) ({ Sides := y1 } : Box) (.agg #[(.slice A2 y1.length c2)]) := shut_Box (VRep.mono hl24 hv13)
     refine lw_op0 rfl rfl (ow_store (X := (One g)) (us := [(.slice A2 y1.length c2)]) (cs' := #[(.slice A2 y1.length c2)]) rfl rfl rfl rfl ho60 (Tryd.sizeOf27 _) rfl rfl rfl rfl hm9 (.inl hg2) rfl hC24 fun w24 ho61 hb16 hl25 hC25 => ?_)
     have ho62 := ho59.go hb16 (fun e => hn1 e)
     have ho63 := ho58.go hb16 (fun e => hn3 e.symm)
     refine lw_nil (ew_then (cw_ret ?_))
     have hw3 : VRep RBox w24 (Del (.slice A1 x2.Sides.length c1) (Add g2 M1)) ({ Sides := y1 } : Box) (.agg #[(.slice A2 y1.length c2)]) := shut_Box (VRep.mono (hl24.trans hl25) hv13)
     obtain rfl := Option.some.inj h
     exact ew_ret (res1 rfl (.cell rfl (own_loadVarA ho61 (Tryd.isAgg27 _) (Tryd.sizeOf27 _) rfl))) ⟨_, rfl, ⟨(hw3.mono hC25.back), ho62⟩, hC25.bx⟩
    ·
     obtain rfl := hbb3.trans hc3
     refine cw_false rfl ?_
     refine cw_seq (cw_region (lw_op rfl rfl rfl (ow_eqlI rfl rfl rfl fun bb4 hbb4 => ?_)))
     refine lw_op rfl rfl rfl (ow_assign rfl rfl ?_)
     refine lw_nil (ew_then ?_)
     replace h := cond_some h
     rcases h with ⟨hc4, h⟩ | ⟨hc4, h⟩
     ·
      obtain rfl := hbb4.trans hc4
      refine cw_true rfl ?_
      refine cw_region (lw_op rfl rfl rfl (ow_fieldAddr rfl rfl Tryd.underlying27 rfl (Tryd.sizeOf25 _) ?_))
      refine lw_op rfl rfl rfl (ow_loadOwn1 rfl rfl rfl ho57 (Tryd.isAgg25 _) rfl ?_)
      refine lw_op rfl rfl rfl (ow_build (v := .agg #[(.int .i64 0), (.int .i64 8)]) rfl rfl (by kernel_rfl) ?_)
      have hw4 : VRep RSpan w22 (Add g2 M1) ({ Lo := 0, Hi := 8 } : Span) (.agg #[(.int .i64 0), (.int .i64 8)]) := shut_Span
      refine lw_op rfl rfl rfl (ow_buildSlice (R := RSpan) (xs := [({ Lo := 0, Hi := 8 } : Span)]) (cs := #[(.int .i64 0), (.int .i64 8)]) (e := 76) rfl rfl (by kernel_rfl) rfl rfl ⟨_, _, rfl, hw4.cells, rfl⟩ hC22 fun p1 w25 hw5 hb17 hl26 hC26 => ?_)
      have ho64 := ho55.no hb17
      have ho65 := ho56.no hb17
      have ho66 := ho57.no hb17
      have hr20 := hr19.no hb17
      replace h := bind_some h
      obtain ⟨x10, hx10, h⟩ := h
      refine lw_op rfl rfl rfl (ow_indexRow (R := (RSlice RSpan)) rfl rfl rfl hr20 Tryd.underlying25 (Tryd.sizeOf58 _) hx10 ?_)
      refine lw_op0 rfl rfl (ow_storeElRow (X := (One g)) (R := (RSlice RSpan)) (S := (RSlice RSpan)) rfl rfl rfl rfl hr20 (orow_blk hr20 hx10) hx10 (FldSet.whole (RSlice RSpan)) (Tryd.sizeOf58 _) hw5 (Nat.le_refl _) hC26 fun w26 ho67 hb18 hl27 hC27 => ?_)
      have ho68 := ho64.go hb18 (fun e => (orow_ne hr20 ho64 (by decide)) (by rw [orow_blk hr20 hx10]; exact congrArg some e.symm))
      have ho69 := ho65.go hb18 (fun e => (orow_ne hr20 ho65 (by decide)) (by rw [orow_blk hr20 hx10]; exact congrArg some e.symm))
      have ho70 := ho66.go hb18 (fun e => (orow_ne hr20 ho66 (by decide)) (by rw [orow_blk hr20 hx10]; exact congrArg some e.symm))
      refine lw_nil (ew_blockN ?_)
      refine ew_then (cw_seq (cw_region (lw_op rfl rfl rfl (ow_loadOwnA rfl rfl rfl ho70 (Tryd.isAgg27 _) (Tryd.sizeOf27 _) rfl ?_))))
      have hw6 := ho67.freezeDel
      have hC28 := ho67.cxDel hC27 hX hO
      have hl28 := Le.del w26 (Add g2 M1) (.slice A1 x2.Sides.length c1)
      have hm11 : (Del (.slice A1 x2.Sides.length c1) (Add g2 M1)) g := ⟨hm5, fun e => (orow_ne ho67 ho68 (by decide)) e⟩
      have hm12 : (Del (.slice A1 x2.Sides.length c1) (Add g2 M1)) g1 := ⟨hm6, fun e => (orow_ne ho67 ho69 (by decide)) e⟩
      have hm13 : (Del (.slice A1 x2.Sides.length c1) (Add g2 M1)) g2 := ⟨hm7, fun e => (orow_ne ho67 ho70 (by decide)) e⟩
      have hw7 : VRep RBox w26 (Del (.slice A1 x2.Sides.length c1) (Add g2 M1)) ({ Sides := (List.set (List.set x2.Sides (x4.1 : Int).toNat x6.1) (3 : Int).toNat [({ Lo := 0, Hi := 8 } : Span)]) } : Box) (.agg #[(.slice A1 x2.Sides.length c1)]) := shut_Box hw6
      refine lw_op0 rfl rfl (ow_store (X := (One g)) (us := [(.slice A1 x2.Sides.length c1)]) (cs' := #[(.slice A1 x2.Sides.length c1)]) rfl rfl rfl rfl ho69 (Tryd.sizeOf27 _) rfl rfl rfl rfl hm12 (.inl hg2) rfl hC28 fun w27 ho71 hb19 hl29 hC29 => ?_)
      have ho72 := ho68.go hb19 (fun e => hn1 e)
      have ho73 := ho70.go hb19 (fun e => hn3 e.symm)
      refine lw_nil (ew_then (cw_ret ?_))
      have hw8 : VRep RBox w27 (Del (.slice A1 x2.Sides.length c1) (Add g2 M1)) ({ Sides := (List.set (List.set x2.Sides (x4.1 : Int).toNat x6.1) (3 : Int).toNat [({ Lo := 0, Hi := 8 } : Span)]) } : Box) (.agg #[(.slice A1 x2.Sides.length c1)]) := shut_Box (VRep.mono hl29 hw6)
      obtain rfl := Option.some.inj h
      exact ew_ret (res1 rfl (.cell rfl (own_loadVarA ho71 (Tryd.isAgg27 _) (Tryd.sizeOf27 _) rfl))) ⟨_, rfl, ⟨(hw8.mono hC29.back), ho72⟩, hC29.bx⟩
     ·
      obtain rfl := hbb4.trans hc4
      refine cw_false rfl ?_
      refine cw_region (lw_op rfl rfl rfl (ow_fieldAddr rfl rfl Tryd.underlying27 rfl (Tryd.sizeOf25 _) ?_))
      refine lw_op rfl rfl rfl (ow_loadOwn1 rfl rfl rfl ho57 (Tryd.isAgg25 _) rfl ?_)
      refine lw_op rfl rfl rfl (ow_buildSlice0I (R := RSpan) (e := 76) rfl (by kernel_rfl) hC22 fun p2 w28 hw9 hb20 hl30 hC30 => ?_)
      have ho74 := ho55.no hb20
      have ho75 := ho56.no hb20
      have ho76 := ho57.no hb20
      have hr21 := hr19.no hb20
      refine lw_op rfl rfl rfl (ow_buildSlice (R := (RSlice RSpan)) (xs := [([] : List Span)]) (cs := #[(.slice (some p2) 0 0)]) (e := 58) rfl rfl (by kernel_rfl) rfl rfl ⟨_, _, rfl, hw9.cells, rfl⟩ hC30 fun p3 w29 hw10 hb21 hl31 hC31 => ?_)
      have ho77 := ho74.no hb21
      have ho78 := ho75.no hb21
      have ho79 := ho76.no hb21
      have hr22 := hr21.no hb21
      replace h := bind_some h
      obtain ⟨z1, hz1, h⟩ := h
      refine lw_op rfl rfl rfl (ow_append (R := (RSlice RSpan)) rfl rfl rfl rfl Tryd.underlying25 hi58 hz58 hs58 hy58 rfl rfl rfl rfl hr22 hw10 hz1 hC31 fun v14 w30 M2 hr23 hb22 hl32 hC32 hM1 hat1 => ?_)
      have ho80 := ho77.go hb22 (fun e => (orow_ne hr22 ho77 (by decide)) e)
      have hm14 := hM1 _ hm5
      have ho81 := ho78.go hb22 (fun e => (orow_ne hr22 ho78 (by decide)) e)
      have hm15 := hM1 _ hm6
      have ho82 := ho79.go hb22 (fun e => (orow_ne hr22 ho79 (by decide)) e)
      have hm16 := hM1 _ hm7
      refine lw_op rfl rfl rfl (ow_fieldAddr rfl rfl Tryd.underlying27 rfl (Tryd.sizeOf25 _) ?_)
      obtain ⟨A3, c3, rfl⟩ := hr23.len
      refine lw_op0 rfl rfl (ow_store (X := (One g)) (us := [(.slice A3 z1.length c3)]) (cs' := #[(.slice A3 z1.length c3)]) rfl rfl rfl rfl ho82 (Tryd.sizeOf25 _) rfl rfl rfl rfl hm16 (.inl hg4) rfl hC32 fun w31 ho83 hb23 hl33 hC33 => ?_)
      have ho84 := ho80.go hb23 (fun e => hn2 e)
      have ho85 := ho81.go hb23 (fun e => hn3 e)
      have hr24 := hr23.go hb23 (fun k hk e => (orow_ne hr23 ho82 (by decide)) (hk.trans (congrArg some e))) hl33 (fun _ h => h)
      refine lw_nil (ew_blockN ?_)
      refine ew_then (cw_seq (cw_region (lw_op rfl rfl rfl (ow_loadOwnA rfl rfl rfl ho83 (Tryd.isAgg27 _) (Tryd.sizeOf27 _) rfl ?_))))
      have hw11 := hr24.freezeDel
      have hC34 := hr24.cxDel hC33 hX hO
      have hl34 := Le.del w31 M2 (.slice A3 z1.length c3)
      have hm17 : (Del (.slice A3 z1.length c3) M2) g := ⟨hm14, fun e => (orow_ne hr24 ho84 (by decide)) e⟩
      have hm18 : (Del (.slice A3 z1.length c3) M2) g1 := ⟨hm15, fun e => (orow_ne hr24 ho85 (by decide)) e⟩
      have hm19 : (Del (.slice A3 z1.length c3) M2) g2 := ⟨hm16, fun e => (orow_ne hr24 ho83 (by decide)) e⟩
      have hw12 : VRep RBox w31 (Del (.slice A3 z1.length c3) M2) ({ Sides := z1 } : Box) (.agg #[(.slice A3 z1.length c3)]) := shut_Box hw11
      refine lw_op0 rfl rfl (ow_store (X := (One g)) (us := [(.slice A3 z1.length c3)]) (cs' := #[(.slice A3 z1.length c3)]) rfl rfl rfl rfl ho85 (Tryd.sizeOf27 _) rfl rfl rfl rfl hm18 (.inl hg2) rfl hC34 fun w32 ho86 hb24 hl35 hC35 => ?_)
      have ho87 := ho84.go hb24 (fun e => hn1 e)
      have ho88 := ho83.go hb24 (fun e => hn3 e.symm)
      refine lw_nil (ew_then (cw_ret ?_))
      have hw13 : VRep RBox w32 (Del (.slice A3 z1.length c3) M2) ({ Sides := z1 } : Box) (.agg #[(.slice A3 z1.length c3)]) := shut_Box (VRep.mono hl35 hw11)
      obtain rfl := Option.some.inj h
      exact ew_ret (res1 rfl (.cell rfl (own_loadVarA ho86 (Tryd.isAgg27 _) (Tryd.sizeOf27 _) rfl))) ⟨_, rfl, ⟨(hw13.mono hC35.back), ho87⟩, hC35.bx⟩
   ·
    obtain rfl := hbb2.trans hc2
    refine cw_false rfl ?_
    refine cw_skip (ew_then (cw_seq (cw_region (lw_op rfl rfl rfl (ow_loadOwnA rfl rfl rfl ho54 (Tryd.isAgg27 _) (Tryd.sizeOf27 _) rfl ?_)))))
    have hw14 := hr18.freezeDel
    have hC36 := hr18.cxDel hC21 hX hO
    have hl36 := Le.del w21 (Add g2 M1) (.slice A1 x2.Sides.length c1)
    have hm20 : (Del (.slice A1 x2.Sides.length c1) (Add g2 M1)) g := ⟨hm5, fun e => (orow_ne hr18 ho52 (by decide)) e⟩
    have hm21 : (Del (.slice A1 x2.Sides.length c1) (Add g2 M1)) g1 := ⟨hm6, fun e => (orow_ne hr18 ho53 (by decide)) e⟩
    have hm22 : (Del (.slice A1 x2.Sides.length c1) (Add g2 M1)) g2 := ⟨hm7, fun e => (orow_ne hr18 ho54 (by decide)) e⟩
    have hw15 : VRep RBox w21 (Del (.slice A1 x2.Sides.length c1) (Add g2 M1)) ({ Sides := (List.set x2.Sides (x4.1 : Int).toNat x6.1) } : Box) (.agg #[(.slice A1 x2.Sides.length c1)]) := shut_Box hw14
    refine lw_op0 rfl rfl (ow_store (X := (One g)) (us := [(.slice A1 x2.Sides.length c1)]) (cs' := #[(.slice A1 x2.Sides.length c1)]) rfl rfl rfl rfl ho53 (Tryd.sizeOf27 _) rfl rfl rfl rfl hm21 (.inl hg2) rfl hC36 fun w33 ho89 hb25 hl37 hC37 => ?_)
    have ho90 := ho52.go hb25 (fun e => hn1 e)
    have ho91 := ho54.go hb25 (fun e => hn3 e.symm)
    refine lw_nil (ew_then (cw_ret ?_))
    have hw16 : VRep RBox w33 (Del (.slice A1 x2.Sides.length c1) (Add g2 M1)) ({ Sides := (List.set x2.Sides (x4.1 : Int).toNat x6.1) } : Box) (.agg #[(.slice A1 x2.Sides.length c1)]) := shut_Box (VRep.mono hl37 hw14)
    obtain rfl := Option.some.inj h
    exact ew_ret (res1 rfl (.cell rfl (own_loadVarA ho89 (Tryd.isAgg27 _) (Tryd.sizeOf27 _) rfl))) ⟨_, rfl, ⟨(hw16.mono hC37.back), ho90⟩, hC37.bx⟩
 ·
  obtain rfl := hbb1.trans hc1
  refine cw_false rfl ?_
  refine cw_skip (ew_then (cw_seq (cw_seq (cw_region (lw_op rfl rfl rfl (ow_move rfl rfl ?_))))))
  refine lw_op rfl rfl rfl (ow_move rfl rfl ?_)
  replace h := bind_some h
  obtain ⟨x11, hx11, h⟩ := h
  refine lw_op rfl rfl rfl (ow_call rfl rfl Tryd.call92 (w_spec_l20Rd_odd (hG.mono (((((hl1.trans hl2).trans hl3).trans hl4).trans hl5).trans hl6)) hC6.old (VRep.mono (((((hl1.trans hl2).trans hl3).trans hl4).trans hl5).trans hl6) hxs) ho13 hm5 hx11) fun v15 w34 hv15 => ?_)
  obtain ⟨⟨hv15, ho92⟩, hb26⟩ := hv15
  have hl38 := Le.of_bx (Add g2 M1) hb26 (fun b e => (by rw [show b = g from e]; exact hm5))
  have hC38 := hC6.go hb26 (fun b e => Or.inr e)
  have ho93 := ho14.go hb26 (fun e => hn1 e.symm)
  have ho94 := ho15.go hb26 (fun e => hn2 e.symm)
  have hr25 := hr4.go hb26 (fun k hk e => (orow_ne hr4 ho13 (by decide)) (hk.trans (congrArg some e))) hl38 (fun _ h => h)
  obtain ⟨bb5, hbb5, rfl⟩ := vbool_ex hv15
  refine lw_nil (ew_then ?_)
  replace h := cond_some h
  rcases h with ⟨hc5, h⟩ | ⟨hc5, h⟩
  ·
   obtain rfl := hbb5.trans hc5
   refine cw_true rfl ?_
   refine cw_seq (cw_region (lw_op rfl rfl rfl (ow_move rfl rfl ?_)))
   replace h := bind_some h
   obtain ⟨x12, hx12, h⟩ := h
   refine lw_op rfl rfl rfl (ow_call rfl rfl Tryd.call87 (w_spec_l20Rd_pick (hG.mono ((((((hl1.trans hl2).trans hl3).trans hl4).trans hl5).trans hl6).trans hl38)) hC38.old (VRep.mono ((((((hl1.trans hl2).trans hl3).trans hl4).trans hl5).trans hl6).trans hl38) hxs) ho92 hm5 hx12) fun v16 w35 hv16 => ?_)
   obtain ⟨⟨hv16, ho95⟩, hb27⟩ := hv16
   have hl39 := Le.of_bx (Add g2 M1) hb27 (fun b e => (by rw [show b = g from e]; exact hm5))
   have hC39 := hC38.go hb27 (fun b e => Or.inr e)
   have ho96 := ho93.go hb27 (fun e => hn1 e.symm)
   have ho97 := ho94.go hb27 (fun e => hn2 e.symm)
   have hr26 := hr25.go hb27 (fun k hk e => (orow_ne hr25 ho92 (by decide)) (hk.trans (congrArg some e))) hl39 (fun _ h => h)
   obtain rfl := vint_eq hv16
   refine lw_nil (ew_then (cw_block ?_))
   refine cw_seq (cw_region (lw_op rfl rfl rfl (ow_eqlI rfl rfl rfl fun bb6 hbb6 => ?_)))
   refine lw_op rfl rfl rfl (ow_assign rfl rfl ?_)
   refine lw_nil (ew_then ?_)
   replace h := cond_some h
   rcases h with ⟨hc6, h⟩ | ⟨hc6, h⟩
   ·
    obtain rfl := hbb6.trans hc6
    refine cw_true rfl ?_
    refine cw_region (lw_op rfl rfl rfl (ow_fieldAddr rfl rfl Tryd.underlying27 rfl (Tryd.sizeOf25 _) ?_))
    refine lw_op rfl rfl rfl (ow_loadOwn1 rfl rfl rfl ho97 (Tryd.isAgg25 _) rfl ?_)
    have hw17 := hr26.freezeDel
    have hC40 := hr26.cxDel hC39 hX hO
    have hl40 := Le.del w35 (Add g2 M1) (.slice A1 x2.Sides.length c1)
    have hm23 : (Del (.slice A1 x2.Sides.length c1) (Add g2 M1)) g := ⟨hm5, fun e => (orow_ne hr26 ho95 (by decide)) e⟩
    have hm24 : (Del (.slice A1 x2.Sides.length c1) (Add g2 M1)) g1 := ⟨hm6, fun e => (orow_ne hr26 ho96 (by decide)) e⟩
    have hm25 : (Del (.slice A1 x2.Sides.length c1) (Add g2 M1)) g2 := ⟨hm7, fun e => (orow_ne hr26 ho97 (by decide)) e⟩
    replace h := bind_some h
    obtain ⟨y2, hy2, h⟩ := h
    refine lw_op rfl rfl rfl (ow_sliceFrom (R := (RSlice RSpan)) rfl rfl rfl hw17 Tryd.underlying25 (Tryd.sizeOf58 _) (dropF_some hy2).2 fun v17 hv17 => ?_)
    rw [← (dropF_some hy2).1] at hv17
    refine lw_op rfl rfl rfl (ow_fieldAddr rfl rfl Tryd.underlying27 rfl (Tryd.sizeOf25 _) ?_)
    obtain ⟨A4, c4, rfl, -⟩ := vslice_shape hv17
    refine lw_op0 rfl rfl (ow_store (X := (One g)) (us := [(.slice A4 y2.length c4)]) (cs' := #[(.slice A4 y2.length c4)]) rfl rfl rfl rfl ho97 (Tryd.sizeOf25 _) rfl rfl rfl rfl hm25 (.inl hg4) rfl hC40 fun w36 ho98 hb28 hl41 hC41 => ?_)
    have ho99 := ho95.go hb28 (fun e => hn2 e)
    have ho100 := ho96.go hb28 (fun e => hn3 e)
    refine lw_nil (ew_blockN ?_)
    refine ew_then (cw_seq (cw_region (lw_op rfl rfl rfl (ow_loadOwnA rfl rfl rfl ho98 (Tryd.isAgg27 _) (Tryd.sizeOf27 _) rfl ?_))))
    have hw18 : VRep RBox w36 (Del (.slice A1 x2.Sides.length c1) (Add g2 M1)) ({ Sides := y2 } : Box) (.agg #[(.slice A4 y2.length c4)]) := shut_Box (VRep.mono hl41 hv17)
    refine lw_op0 rfl rfl (ow_store (X := (One g)) (us := [(.slice A4 y2.length c4)]) (cs' := #[(.slice A4 y2.length c4)]) rfl rfl rfl rfl ho100 (Tryd.sizeOf27 _) rfl rfl rfl rfl hm24 (.inl hg2) rfl hC41 fun w37 ho101 hb29 hl42 hC42 => ?_)
    have ho102 := ho99.go hb29 (fun e => hn1 e)
    have ho103 := ho98.go hb29 (fun e => hn3 e.symm)
    refine lw_nil (ew_then (cw_ret ?_))
    have hw19 : VRep RBox w37 (Del (.slice A1 x2.Sides.length c1) (Add g2 M1)) ({ Sides := y2 } : Box) (.agg #[(.slice A4 y2.length c4)]) := shut_Box (VRep.mono (hl41.trans hl42) hv17)
    obtain rfl := Option.some.inj h
    exact ew_ret (res1 rfl (.cell rfl (own_loadVarA ho101 (Tryd.isAgg27 _) (Tryd.sizeOf27 _) rfl))) ⟨_, rfl, ⟨(hw19.mono hC42.back), ho102⟩, hC42.bx⟩
   ·
    obtain rfl := hbb6.trans hc6
    refine cw_false rfl ?_
    refine cw_seq (cw_region (lw_op rfl rfl rfl (ow_eqlI rfl rfl rfl fun bb7 hbb7 => ?_)))
    refine lw_op rfl rfl rfl (ow_assign rfl rfl ?_)
    refine lw_nil (ew_then ?_)
    replace h := cond_some h
    rcases h with ⟨hc7, h⟩ | ⟨hc7, h⟩
    ·
     obtain rfl := hbb7.trans hc7
     refine cw_true rfl ?_
     refine cw_region (lw_op rfl rfl rfl (ow_fieldAddr rfl rfl Tryd.underlying27 rfl (Tryd.sizeOf25 _) ?_))
     refine lw_op rfl rfl rfl (ow_loadOwn1 rfl rfl rfl ho97 (Tryd.isAgg25 _) rfl ?_)
     refine lw_op rfl rfl rfl (ow_build (v := .agg #[(.int .i64 0), (.int .i64 8)]) rfl rfl (by kernel_rfl) ?_)
     have hw20 : VRep RSpan w35 (Add g2 M1) ({ Lo := 0, Hi := 8 } : Span) (.agg #[(.int .i64 0), (.int .i64 8)]) := shut_Span
     refine lw_op rfl rfl rfl (ow_buildSlice (R := RSpan) (xs := [({ Lo := 0, Hi := 8 } : Span)]) (cs := #[(.int .i64 0), (.int .i64 8)]) (e := 76) rfl rfl (by kernel_rfl) rfl rfl ⟨_, _, rfl, hw20.cells, rfl⟩ hC39 fun p4 w38 hw21 hb30 hl43 hC43 => ?_)
     have ho104 := ho95.no hb30
     have ho105 := ho96.no hb30
     have ho106 := ho97.no hb30
     have hr27 := hr26.no hb30
     replace h := bind_some h
     obtain ⟨x13, hx13, h⟩ := h
     refine lw_op rfl rfl rfl (ow_indexRow (R := (RSlice RSpan)) rfl rfl rfl hr27 Tryd.underlying25 (Tryd.sizeOf58 _) hx13 ?_)
     refine lw_op0 rfl rfl (ow_storeElRow (X := (One g)) (R := (RSlice RSpan)) (S := (RSlice RSpan)) rfl rfl rfl rfl hr27 (orow_blk hr27 hx13) hx13 (FldSet.whole (RSlice RSpan)) (Tryd.sizeOf58 _) hw21 (Nat.le_refl _) hC43 fun w39 ho107 hb31 hl44 hC44 => ?_)
     have ho108 := ho104.go hb31 (fun e => (orow_ne hr27 ho104 (by decide)) (by rw [orow_blk hr27 hx13]; exact congrArg some e.symm))
     have ho109 := ho105.go hb31 (fun e => (orow_ne hr27 ho105 (by decide)) (by rw [orow_blk hr27 hx13]; exact congrArg some e.symm))
     have ho110 := ho106.go hb31 (fun e => (orow_ne hr27 ho106 (by decide)) (by rw [orow_blk hr27 hx13]; exact congrArg some e.symm))
     refine lw_nil (ew_blockN ?_)
     refine ew_then (cw_seq (cw_region (lw_op rfl rfl rfl (ow_loadOwnA rfl rfl rfl ho110 (Tryd.isAgg27 _) (Tryd.sizeOf27 _) rfl ?_))))
     have hw22 := ho107.freezeDel
     have hC45 := ho107.cxDel hC44 hX hO
     have hl45 := Le.del w39 (Add g2 M1) (.slice A1 x2.Sides.length c1)
     have hm26 : (Del (.slice A1 x2.Sides.length c1) (Add g2 M1)) g := ⟨hm5, fun e => (orow_ne ho107 ho108 (by decide)) e⟩
     have hm27 : (Del (.slice A1 x2.Sides.length c1) (Add g2 M1)) g1 := ⟨hm6, fun e => (orow_ne ho107 ho109 (by decide)) e⟩
     have hm28 : (Del (.slice A1 x2.Sides.length c1) (Add g2 M1)) g2 := ⟨hm7, fun e => (orow_ne ho107 ho110 (by decide)) e⟩
     have hw23 : VRep RBox w39 (Del (.slice A1 x2.Sides.length c1) (Add g2 M1)) ({ Sides := (List.set x2.Sides (3 : Int).toNat [({ Lo := 0, Hi := 8 } : Span)]) } : Box) (.agg #[(.slice A1 x2.Sides.length c1)]) := shut_Box hw22
     refine lw_op0 rfl rfl (ow_store (X := (One g)) (us := [(.slice A1 x2.Sides.length c1)]) (cs' := #[(.slice A1 x2.Sides.length c1)]) rfl rfl rfl rfl ho109 (Tryd.sizeOf27 _) rfl rfl rfl rfl hm27 (.inl hg2) rfl hC45 fun w40 ho111 hb32 hl46 hC46 => ?_)
     have ho112 := ho108.go hb32 (fun e => hn1 e)
     have ho113 := ho110.go hb32 (fun e => hn3 e.symm)
     refine lw_nil (ew_then (cw_ret ?_))
     have hw24 : VRep RBox w40 (Del (.slice A1 x2.Sides.length c1) (Add g2 M1)) ({ Sides := (List.set x2.Sides (3 : Int).toNat [({ Lo := 0, Hi := 8 } : Span)]) } : Box) (.agg #[(.slice A1 x2.Sides.length c1)]) := shut_Box (VRep.mono hl46 hw22)
     obtain rfl := Option.some.inj h
     exact ew_ret (res1 rfl (.cell rfl (own_loadVarA ho111 (Tryd.isAgg27 _) (Tryd.sizeOf27 _) rfl))) ⟨_, rfl, ⟨(hw24.mono hC46.back), ho112⟩, hC46.bx⟩
    ·
     obtain rfl := hbb7.trans hc7
     refine cw_false rfl ?_
     refine cw_region (lw_op rfl rfl rfl (ow_fieldAddr rfl rfl Tryd.underlying27 rfl (Tryd.sizeOf25 _) ?_))
     refine lw_op rfl rfl rfl (ow_loadOwn1 rfl rfl rfl ho97 (Tryd.isAgg25 _) rfl ?_)
     refine lw_op rfl rfl rfl (ow_buildSlice0I (R := RSpan) (e := 76) rfl (by kernel_rfl) hC39 fun p5 w41 hw25 hb33 hl47 hC47 => ?_)
     have ho114 := ho95.no hb33
     have ho115 := ho96.no hb33
     have ho116 := ho97.no hb33
     have hr28 := hr26.no hb33
     refine lw_op rfl rfl rfl (ow_buildSlice (R := (RSlice RSpan)) (xs := [([] : List Span)]) (cs := #[(.slice (some p5) 0 0)]) (e := 58) rfl rfl (by kernel_rfl) rfl rfl ⟨_, _, rfl, hw25.cells, rfl⟩ hC47 fun p6 w42 hw26 hb34 hl48 hC48 => ?_)
     have ho117 := ho114.no hb34
     have ho118 := ho115.no hb34
     have ho119 := ho116.no hb34
     have hr29 := hr28.no hb34
     replace h := bind_some h
     obtain ⟨z2, hz2, h⟩ := h
     refine lw_op rfl rfl rfl (ow_append (R := (RSlice RSpan)) rfl rfl rfl rfl Tryd.underlying25 hi58 hz58 hs58 hy58 rfl rfl rfl rfl hr29 hw26 hz2 hC48 fun v18 w43 M3 hr30 hb35 hl49 hC49 hM2 hat2 => ?_)
     have ho120 := ho117.go hb35 (fun e => (orow_ne hr29 ho117 (by decide)) e)
     have hm29 := hM2 _ hm5
     have ho121 := ho118.go hb35 (fun e => (orow_ne hr29 ho118 (by decide)) e)
     have hm30 := hM2 _ hm6
     have ho122 := ho119.go hb35 (fun e => (orow_ne hr29 ho119 (by decide)) e)
     have hm31 := hM2 _ hm7
     refine lw_op rfl rfl rfl (ow_fieldAddr rfl rfl Tryd.underlying27 rfl (Tryd.sizeOf25 _) ?_)
     obtain ⟨A5, c5, rfl⟩ := hr30.len
     refine lw_op0 rfl rfl (ow_store (X := (One g)) (us := [(.slice A5 z2.length c5)]) (cs' := #[(.slice A5 z2.length c5)]) rfl rfl rfl rfl ho122 (Tryd.sizeOf25 _) rfl rfl rfl rfl hm31 (.inl hg4) rfl hC49 fun w44 ho123 hb36 hl50 hC50 => ?_)
     have ho124 := ho120.go hb36 (fun e => hn2 e)
     have ho125 := ho121.go hb36 (fun e => hn3 e)
     have hr31 := hr30.go hb36 (fun k hk e => (orow_ne hr30 ho122 (by decide)) (hk.trans (congrArg some e))) hl50 (fun _ h => h)
     refine lw_nil (ew_blockN ?_)
     refine ew_then (cw_seq (cw_region (lw_op rfl rfl rfl (ow_loadOwnA rfl rfl rfl ho123 (Tryd.isAgg27 _) (Tryd.sizeOf27 _) rfl ?_))))
     have hw27 := hr31.freezeDel
     have hC51 := hr31.cxDel hC50 hX hO
     have hl51 := Le.del w44 M3 (.slice A5 z2.length c5)
     have hm32 : (Del (.slice A5 z2.length c5) M3) g := ⟨hm29, fun e => (orow_ne hr31 ho124 (by decide)) e⟩
     have hm33 : (Del (.slice A5 z2.length c5) M3) g1 := ⟨hm30, fun e => (orow_ne hr31 ho125 (by decide)) e⟩
     have hm34 : (Del (.slice A5 z2.length c5) M3) g2 := ⟨hm31, fun e => (orow_ne hr31 ho123 (by decide)) e⟩
     have hw28 : VRep RBox w44 (Del (.slice A5 z2.length c5) M3) ({ Sides := z2 } : Box) (.agg #[(.slice A5 z2.length c5)]) := shut_Box hw27
     refine lw_op0 rfl rfl (ow_store (X := (One g)) (us := [(.slice A5 z2.length c5)]) (cs' := #[(.slice A5 z2.length c5)]) rfl rfl rfl rfl ho125 (Tryd.sizeOf27 _) rfl rfl rfl rfl hm33 (.inl hg2) rfl hC51 fun w45 ho126 hb37 hl52 hC52 => ?_)
     have ho127 := ho124.go hb37 (fun e => hn1 e)
     have ho128 := ho123.go hb37 (fun e => hn3 e.symm)
     refine lw_nil (ew_then (cw_ret ?_))
     have hw29 : VRep RBox w45 (Del (.slice A5 z2.length c5) M3) ({ Sides := z2 } : Box) (.agg #[(.slice A5 z2.length c5)]) := shut_Box (VRep.mono hl52 hw27)
     obtain rfl := Option.some.inj h
     exact ew_ret (res1 rfl (.cell rfl (own_loadVarA ho126 (Tryd.isAgg27 _) (Tryd.sizeOf27 _) rfl))) ⟨_, rfl, ⟨(hw29.mono hC52.back), ho127⟩, hC52.bx⟩
  ·
   obtain rfl := hbb5.trans hc5
   refine cw_false rfl ?_
   refine cw_skip (ew_then (cw_seq (cw_region (lw_op rfl rfl rfl (ow_loadOwnA rfl rfl rfl ho94 (Tryd.isAgg27 _) (Tryd.sizeOf27 _) rfl ?_)))))
   have hw30 := hr25.freezeDel
   have hC53 := hr25.cxDel hC38 hX hO
   have hl53 := Le.del w34 (Add g2 M1) (.slice A1 x2.Sides.length c1)
   have hm35 : (Del (.slice A1 x2.Sides.length c1) (Add g2 M1)) g := ⟨hm5, fun e => (orow_ne hr25 ho92 (by decide)) e⟩
   have hm36 : (Del (.slice A1 x2.Sides.length c1) (Add g2 M1)) g1 := ⟨hm6, fun e => (orow_ne hr25 ho93 (by decide)) e⟩
   have hm37 : (Del (.slice A1 x2.Sides.length c1) (Add g2 M1)) g2 := ⟨hm7, fun e => (orow_ne hr25 ho94 (by decide)) e⟩
   have hw31 : VRep RBox w34 (Del (.slice A1 x2.Sides.length c1) (Add g2 M1)) ({ Sides := x2.Sides } : Box) (.agg #[(.slice A1 x2.Sides.length c1)]) := shut_Box hw30
   refine lw_op0 rfl rfl (ow_store (X := (One g)) (us := [(.slice A1 x2.Sides.length c1)]) (cs' := #[(.slice A1 x2.Sides.length c1)]) rfl rfl rfl rfl ho93 (Tryd.sizeOf27 _) rfl rfl rfl rfl hm36 (.inl hg2) rfl hC53 fun w46 ho129 hb38 hl54 hC54 => ?_)
   have ho130 := ho92.go hb38 (fun e => hn1 e)
   have ho131 := ho94.go hb38 (fun e => hn3 e.symm)
   refine lw_nil (ew_then (cw_ret ?_))
   have hw32 : VRep RBox w46 (Del (.slice A1 x2.Sides.length c1) (Add g2 M1)) ({ Sides := x2.Sides } : Box) (.agg #[(.slice A1 x2.Sides.length c1)]) := shut_Box (VRep.mono hl54 hw30)
   obtain rfl := Option.some.inj h
   exact ew_ret (res1 rfl (.cell rfl (own_loadVarA ho129 (Tryd.isAgg27 _) (Tryd.sizeOf27 _) rfl))) ⟨_, rfl, ⟨(hw32.mono hC54.back), ho130⟩, hC54.bx⟩

theorem w_spec_l20Region {w : World} {M : Nat → Prop} (hG : ARep (RArr 4 RShape) w M shapes ⟨0, 0, none⟩) (hO : ∀ b, M b → b < w.heap.size) {g : Nat} {Ax : Option Addr} {cx : Nat} {a_xs : List Int} {a_pos : Int} (hxs : VRep (RSlice RU8) w M a_xs (.slice Ax a_xs.length cx)) (hown : Own w g 98 #[.slice Ax a_xs.length cx, .int .i64 a_pos]) (hgM : M g) {a_n : Int} {r : ((List Box)) × Int} (h : F.spec_l20Region a_xs a_pos a_n = some r) :
  Calls Tryd.prog 62 [(.pointer (some ⟨g, 0, none⟩)), (.int .i64 a_n)].toArray w fun e w' => ∃ v, e = .returned v ∧ (VRep (RSlice RBox) w' M r.1 v ∧ Own w' g 98 #[.slice Ax a_xs.length cx, .int .i64 r.2]) ∧ BX (One g) w w' := by
 obtain ⟨i27, hi27, hz27, hs27, hy27⟩ := info27
 have hX : ∀ b, (One g) b → M b := fun b e => e ▸ hgM
 have hC : Cx (One g) w M w M := Cx.start hO hX
 refine walk (N := 32) Tryd.func62 rfl Tryd.ntmps62 rfl ?_
 refine cw_seq (cw_region (lw_op rfl rfl rfl (ow_assign rfl rfl ?_)))
 refine lw_nil (ew_then (cw_seq (cw_region (lw_op rfl rfl rfl (ow_buildSlice0 (R := RBox) (e := 27) rfl (by kernel_rfl) hC fun p1 w1 M1 hr1 hb1 hl1 hC1 hM1 hat1 => ?_)))))
 have ho1 := hown.no hb1
 have hm1 := hM1 _ hgM
 refine lw_op rfl rfl rfl (ow_assign rfl rfl ?_)
 refine lw_nil (ew_then (cw_seq (cw_seq (cw_region (lw_op rfl rfl rfl (ow_move rfl rfl ?_))))))
 replace h := bind_some h
 obtain ⟨x1, hx1, h⟩ := h
 refine lw_op rfl rfl rfl (ow_call rfl rfl Tryd.call87 (w_spec_l20Rd_pick (hG.mono hl1) hC1.old (VRep.mono hl1 hxs) ho1 hm1 hx1) fun v1 w2 hv1 => ?_)
 obtain ⟨⟨hv1, ho2⟩, hb2⟩ := hv1
 have hl2 := Le.of_bx M1 hb2 (fun b e => (by rw [show b = g from e]; exact hm1))
 have hC2 := hC1.go hb2 (fun b e => Or.inr e)
 have hr2 := hr1.go hb2 (fun k hk e => (orow_ne hr1 ho1 (by decide)) (hk.trans (congrArg some e))) hl2 (fun _ h => h)
 obtain rfl := vint_eq hv1
 refine lw_op rfl rfl rfl (ow_assign rfl rfl ?_)
 refine lw_nil (ew_then ?_)
 replace h := bind_some h
 obtain ⟨lr1, hlr1, h⟩ := h
 refine cw_for hlr1 (fun s a w' => ∃ (M' : Nat → Prop) (v0c : Value), Fits 32 [(0, (.pointer (some ⟨g, 0, none⟩))), (1, (.int .i64 a_n)), (5, v0c), (6, (.int .i64 s.2.1))] a ∧ Le w2 M1 w' M' ∧ Cx (One g) w M w' M' ∧ OwnRow RBox w.heap.size 27 w' M' s.1 v0c ∧ Own w' g 98 #[(.slice Ax a_xs.length cx), (.int .i64 s.2.2)] ∧ M' g) ?_ ?_ ?_
 ·
  intro a ha
  exact ⟨M1, (.slice (some p1) 0 0), ha.sub ⟨rfl, rfl, rfl, rfl, trivial⟩, Le.refl _ _, hC2, hr2, ho2, hm1⟩
 ·
  rintro ⟨y1, k1, k2⟩ a w3 sr1 ⟨M2, v2, hF1, hl3, hC3, hw1, ho3, hm2⟩ hb3 hR1
  refine cw_at (E := [(0, (.pointer (some ⟨g, 0, none⟩))), (1, (.int .i64 a_n)), (5, v2), (6, (.int .i64 k1))]) hF1 ?_
  refine cw_seq (cw_seq (cw_region (lw_op rfl rfl rfl (ow_move rfl rfl ?_))))
  refine lw_op rfl rfl rfl (ow_gtr rfl rfl rfl fun bb1 hbb1 => ?_)
  refine lw_nil (ew_then ?_)
  replace hb3 := cond_some hb3
  rcases hb3 with ⟨hc1, hb3⟩ | ⟨hc1, hb3⟩
  ·
   obtain rfl := hbb1.trans hc1
   refine cw_true rfl ?_
   refine cw_skip (ew_then (cw_seq (cw_block ?_)))
   refine cw_region (lw_op rfl rfl rfl (ow_move rfl rfl ?_))
   refine lw_op rfl rfl rfl (ow_move rfl rfl ?_)
   replace hb3 := bind_some hb3
   obtain ⟨x2, hx2, hb3⟩ := hb3
   refine lw_op rfl rfl rfl (ow_call rfl rfl Tryd.call73 (w_spec_l20Box (hG.mono ((hl1.trans hl2).trans hl3)) hC3.old (VRep.mono ((hl1.trans hl2).trans hl3) hxs) ho3 hm2 hx2) fun v5 w4 hv5 => ?_)
   obtain ⟨⟨hv5, ho4⟩, hb4⟩ := hv5
   have hl4 := Le.of_bx M2 hb4 (fun b e => (by rw [show b = g from e]; exact hm2))
   have hC4 := hC3.go hb4 (fun b e => Or.inr e)
   have hr3 := hw1.go hb4 (fun k hk e => (orow_ne hw1 ho3 (by decide)) (hk.trans (congrArg some e))) hl4 (fun _ h => h)
   obtain ⟨A1, c1, rfl, hw2⟩ := open_Box hv5
   refine lw_op rfl rfl rfl (ow_buildSlice (R := RBox) (xs := [x2.1]) (cs := #[(.slice A1 x2.1.Sides.length c1)]) (e := 27) rfl rfl (by kernel_rfl) rfl rfl ⟨_, _, rfl, hv5.cells, rfl⟩ hC4 fun p2 w5 hw3 hb5 hl5 hC5 => ?_)
   have ho5 := ho4.no hb5
   have hr4 := hr3.no hb5
   replace hb3 := bind_some hb3
   obtain ⟨z1, hz1, hb3⟩ := hb3
   refine lw_op rfl rfl rfl (ow_append (R := RBox) rfl rfl rfl rfl Tryd.underlying34 hi27 hz27 hs27 hy27 rfl rfl rfl rfl hr4 hw3 hz1 hC5 fun v6 w6 M3 hr5 hb6 hl6 hC6 hM2 hat2 => ?_)
   have ho6 := ho5.go hb6 (fun e => (orow_ne hr4 ho5 (by decide)) e)
   have hm3 := hM2 _ hm2
   refine lw_op rfl rfl rfl (ow_assign rfl rfl ?_)
   refine lw_nil (ew_blockN ?_)
   refine ew_then (cw_region (lw_op rfl rfl rfl (ow_move rfl rfl ?_)))
   refine lw_op rfl rfl rfl (ow_sub rfl rfl rfl ?_)
   refine lw_op rfl rfl rfl (ow_assign rfl rfl ?_)
   refine lw_nil (ew_nxt (z1, (W (k1 - 1)), x2.2) hb3 fun a ha => ⟨M3, v6, ?_, (((hl3.trans hl4).trans hl5).trans hl6), hC6, hr5, ho6, hm3⟩)
   exact ha.sub ⟨rfl, rfl, rfl, rfl, trivial⟩
  ·
   obtain rfl := hbb1.trans hc1
   refine cw_false rfl ?_
   refine cw_exit ?_
   refine ew_thenX ?_
   refine ew_thenX ?_
   refine ew_blockX ?_
   refine ew_brk (y1, k1, k2) hb3 fun a ha => ⟨M2, v2, ?_, hl3, hC3, hw1, ho3, hm2⟩
   exact ha.sub ⟨rfl, rfl, rfl, rfl, trivial⟩
 ·
  rintro ⟨y2, k3, k4⟩ a w7 hlr2 ⟨M4, v7, hF2, hl7, hC7, hw4, ho7, hm4⟩
  subst hlr2
  refine ew_at (E := [(0, (.pointer (some ⟨g, 0, none⟩))), (1, (.int .i64 a_n)), (5, v7), (6, (.int .i64 k3))]) hF2 ?_
  refine ew_then (cw_seq (cw_seq (cw_region (lw_op rfl rfl rfl (ow_move rfl rfl ?_)))))
  refine lw_op rfl rfl rfl (ow_move rfl rfl ?_)
  replace h := bind_some h
  obtain ⟨x3, hx3, h⟩ := h
  refine lw_op rfl rfl rfl (ow_call rfl rfl Tryd.call92 (w_spec_l20Rd_odd (hG.mono ((hl1.trans hl2).trans hl7)) hC7.old (VRep.mono ((hl1.trans hl2).trans hl7) hxs) ho7 hm4 hx3) fun v10 w8 hv10 => ?_)
  obtain ⟨⟨hv10, ho8⟩, hb7⟩ := hv10
  have hl8 := Le.of_bx M4 hb7 (fun b e => (by rw [show b = g from e]; exact hm4))
  have hC8 := hC7.go hb7 (fun b e => Or.inr e)
  have hr6 := hw4.go hb7 (fun k hk e => (orow_ne hw4 ho7 (by decide)) (hk.trans (congrArg some e))) hl8 (fun _ h => h)
  obtain ⟨bb2, hbb2, rfl⟩ := vbool_ex hv10
  refine lw_nil (ew_then ?_)
  replace h := cond_some h
  rcases h with ⟨hc2, h⟩ | ⟨hc2, h⟩
  ·
   obtain rfl := hbb2.trans hc2
   refine cw_true rfl ?_
   refine cw_seq (cw_region (lw_op rfl rfl rfl (ow_move rfl rfl ?_)))
   replace h := bind_some h
   obtain ⟨x4, hx4, h⟩ := h
   refine lw_op rfl rfl rfl (ow_call rfl rfl Tryd.call87 (w_spec_l20Rd_pick (hG.mono (((hl1.trans hl2).trans hl7).trans hl8)) hC8.old (VRep.mono (((hl1.trans hl2).trans hl7).trans hl8) hxs) ho8 hm4 hx4) fun v11 w9 hv11 => ?_)
   obtain ⟨⟨hv11, ho9⟩, hb8⟩ := hv11
   have hl9 := Le.of_bx M4 hb8 (fun b e => (by rw [show b = g from e]; exact hm4))
   have hC9 := hC8.go hb8 (fun b e => Or.inr e)
   have hr7 := hr6.go hb8 (fun k hk e => (orow_ne hr6 ho8 (by decide)) (hk.trans (congrArg some e))) hl9 (fun _ h => h)
   obtain rfl := vint_eq hv11
   refine lw_op rfl rfl rfl (ow_eqlI rfl rfl rfl fun bb3 hbb3 => ?_)
   refine lw_nil (ew_then ?_)
   replace h := cond_some h
   rcases h with ⟨hc3, h⟩ | ⟨hc3, h⟩
   ·
    obtain rfl := hbb3.trans hc3
    refine cw_true rfl ?_
    refine cw_region (lw_op rfl rfl rfl (ow_move rfl rfl ?_))
    refine lw_op rfl rfl rfl (ow_move rfl rfl ?_)
    replace h := bind_some h
    obtain ⟨x5, hx5, h⟩ := h
    refine lw_op rfl rfl rfl (ow_call rfl rfl Tryd.call73 (w_spec_l20Box (hG.mono ((((hl1.trans hl2).trans hl7).trans hl8).trans hl9)) hC9.old (VRep.mono ((((hl1.trans hl2).trans hl7).trans hl8).trans hl9) hxs) ho9 hm4 hx5) fun v12 w10 hv12 => ?_)
    obtain ⟨⟨hv12, ho10⟩, hb9⟩ := hv12
    have hl10 := Le.of_bx M4 hb9 (fun b e => (by rw [show b = g from e]; exact hm4))
    have hC10 := hC9.go hb9 (fun b e => Or.inr e)
    have hr8 := hr7.go hb9 (fun k hk e => (orow_ne hr7 ho9 (by decide)) (hk.trans (congrArg some e))) hl10 (fun _ h => h)
    obtain ⟨A2, c2, rfl, hw5⟩ := open_Box hv12
    refine lw_op rfl rfl rfl (ow_buildSlice (R := RBox) (xs := [x5.1]) (cs := #[(.slice A2 x5.1.Sides.length c2)]) (e := 27) rfl rfl (by kernel_rfl) rfl rfl ⟨_, _, rfl, hv12.cells, rfl⟩ hC10 fun p3 w11 hw6 hb10 hl11 hC11 => ?_)
    have ho11 := ho10.no hb10
    have hr9 := hr8.no hb10
    replace h := bind_some h
    obtain ⟨z2, hz2, h⟩ := h
    refine lw_op rfl rfl rfl (ow_append (R := RBox) rfl rfl rfl rfl Tryd.underlying34 hi27 hz27 hs27 hy27 rfl rfl rfl rfl hr9 hw6 hz2 hC11 fun v13 w12 M5 hr10 hb11 hl12 hC12 hM3 hat3 => ?_)
    have ho12 := ho11.go hb11 (fun e => (orow_ne hr9 ho11 (by decide)) e)
    have hm5 := hM3 _ hm4
    refine lw_op rfl rfl rfl (ow_assign rfl rfl ?_)
    refine lw_nil (ew_then (cw_seq (cw_region (lw_op rfl rfl rfl (ow_move rfl rfl ?_)))))
    refine lw_op rfl rfl rfl (ow_assign rfl rfl ?_)
    refine lw_nil (ew_then (cw_ret ?_))
    obtain rfl := Option.some.inj h
    exact ew_ret (res1 rfl (.tmp rfl)) ⟨_, rfl, ⟨(hr10.freezeBack hC12 hO), ho12⟩, hC12.bx⟩
   ·
    obtain rfl := hbb3.trans hc3
    refine cw_false rfl ?_
    refine cw_region ?_
    replace h := bind_some h
    obtain ⟨mk1, hmk1, h⟩ := h
    refine lw_op rfl rfl rfl (ow_make (R := RBox) rfl rfl rfl Tryd.underlying34 hi27 hz27 hs27 hy27 rfl rfl (shut_Box vslice_nil) hmk1 hC9 fun v14 w13 M6 hr11 hb12 hl13 hC13 hM4 hat4 => ?_)
    have ho13 := ho9.no hb12
    have hm6 := hM4 _ hm4
    have hr12 := hr7.go hb12 (fun _ _ e => e) hl13 hM4
    refine lw_op rfl rfl rfl (ow_assign rfl rfl ?_)
    refine lw_nil (ew_then (cw_seq (cw_region (lw_op rfl rfl rfl (ow_move rfl rfl ?_)))))
    refine lw_op rfl rfl rfl (ow_assign rfl rfl ?_)
    refine lw_nil (ew_then (cw_ret ?_))
    obtain rfl := Option.some.inj h
    exact ew_ret (res1 rfl (.tmp rfl)) ⟨_, rfl, ⟨(hr11.freezeBack hC13 hO), ho13⟩, hC13.bx⟩
  ·
   obtain rfl := hbb2.trans hc2
   refine cw_false rfl ?_
   refine cw_skip (ew_then (cw_seq (cw_region (lw_op rfl rfl rfl (ow_move rfl rfl ?_)))))
   refine lw_op rfl rfl rfl (ow_assign rfl rfl ?_)
   refine lw_nil (ew_then (cw_ret ?_))
   obtain rfl := Option.some.inj h
   exact ew_ret (res1 rfl (.tmp rfl)) ⟨_, rfl, ⟨(hr6.freezeBack hC8 hO), ho8⟩, hC8.bx⟩

theorem w_spec_l20Packet {w : World} {M : Nat → Prop} (hG : ARep (RArr 4 RShape) w M shapes ⟨0, 0, none⟩) (hO : ∀ b, M b → b < w.heap.size) {g : Nat} {Ax : Option Addr} {cx : Nat} {a_xs : List Int} {a_pos : Int} (hxs : VRep (RSlice RU8) w M a_xs (.slice Ax a_xs.length cx)) (hown : Own w g 98 #[.slice Ax a_xs.length cx, .int .i64 a_pos]) (hgM : M g) {a_n : Int} {r : Packet × Int} (h : F.spec_l20Packet a_xs a_pos a_n = some r) :
  Calls Tryd.prog 115 [(.pointer (some ⟨g, 0, none⟩)), (.int .i64 a_n)].toArray w fun e w' => ∃ v, e = .returned v ∧ (VRep RPacket w' M r.1 v ∧ Own w' g 98 #[.slice Ax a_xs.length cx, .int .i64 r.2]) ∧ BX (One g) w w' := by
 have hX : ∀ b, (One g) b → M b := fun b e => e ▸ hgM
 have hC : Cx (One g) w M w M := Cx.start hO hX
 refine walk (N := 71) Tryd.func115 rfl Tryd.ntmps115 rfl ?_
 refine cw_seq (cw_region (lw_op rfl rfl rfl (ow_alloc rfl (Tryd.zeroValue45 _) hC fun g1 w1 hg1 hg2 ho1 hb1 hl1 hC1 => ?_)))
 have hn1 := Nat.ne_of_lt (Nat.lt_of_lt_of_le hown.lt hg1)
 have ho2 := hown.no hb1
 have hm1 : (Add g1 M) g := .inr hgM
 have hm2 : (Add g1 M) g1 := .inl rfl
 refine lw_nil (ew_then (cw_seq (cw_region (lw_op rfl rfl rfl (ow_move rfl rfl ?_)))))
 replace h := bind_some h
 obtain ⟨x1, hx1, h⟩ := h
 refine lw_op rfl rfl rfl (ow_call rfl rfl Tryd.call87 (w_spec_l20Rd_pick (hG.mono hl1) hC1.old (VRep.mono hl1 hxs) ho2 hm1 hx1) fun v1 w2 hv1 => ?_)
 obtain ⟨⟨hv1, ho3⟩, hb2⟩ := hv1
 have hl2 := Le.of_bx (Add g1 M) hb2 (fun b e => (by rw [show b = g from e]; exact hm1))
 have hC2 := hC1.go hb2 (fun b e => Or.inr e)
 have ho4 := ho1.go hb2 (fun e => hn1 e.symm)
 obtain rfl := vint_eq hv1
 refine lw_op rfl rfl rfl (ow_move rfl rfl ?_)
 replace h := bind_some h
 obtain ⟨x2, hx2, h⟩ := h
 refine lw_op rfl rfl rfl (ow_call rfl rfl Tryd.call87 (w_spec_l20Rd_pick (hG.mono (hl1.trans hl2)) hC2.old (VRep.mono (hl1.trans hl2) hxs) ho3 hm1 hx2) fun v2 w3 hv2 => ?_)
 obtain ⟨⟨hv2, ho5⟩, hb3⟩ := hv2
 have hl3 := Le.of_bx (Add g1 M) hb3 (fun b e => (by rw [show b = g from e]; exact hm1))
 have hC3 := hC2.go hb3 (fun b e => Or.inr e)
 have ho6 := ho4.go hb3 (fun e => hn1 e.symm)
 obtain rfl := vint_eq hv2
 refine lw_op rfl rfl rfl (ow_move rfl rfl ?_)
 replace h := bind_some h
 obtain ⟨x3, hx3, h⟩ := h
 refine lw_op rfl rfl rfl (ow_call rfl rfl Tryd.call87 (w_spec_l20Rd_pick (hG.mono ((hl1.trans hl2).trans hl3)) hC3.old (VRep.mono ((hl1.trans hl2).trans hl3) hxs) ho5 hm1 hx3) fun v3 w4 hv3 => ?_)
 obtain ⟨⟨hv3, ho7⟩, hb4⟩ := hv3
 have hl4 := Le.of_bx (Add g1 M) hb4 (fun b e => (by rw [show b = g from e]; exact hm1))
 have hC4 := hC3.go hb4 (fun b e => Or.inr e)
 have ho8 := ho6.go hb4 (fun e => hn1 e.symm)
 obtain rfl := vint_eq hv3
 refine lw_op rfl rfl rfl (ow_move rfl rfl ?_)
 replace h := bind_some h
 obtain ⟨x4, hx4, h⟩ := h
 refine lw_op rfl rfl rfl (ow_call rfl rfl Tryd.call87 (w_spec_l20Rd_pick (hG.mono (((hl1.trans hl2).trans hl3).trans hl4)) hC4.old (VRep.mono (((hl1.trans hl2).trans hl3).trans hl4) hxs) ho7 hm1 hx4) fun v4 w5 hv4 => ?_)
 obtain ⟨⟨hv4, ho9⟩, hb5⟩ := hv4
 have hl5 := Le.of_bx (Add g1 M) hb5 (fun b e => (by rw [show b = g from e]; exact hm1))
 have hC5 := hC4.go hb5 (fun b e => Or.inr e)
 have ho10 := ho8.go hb5 (fun e => hn1 e.symm)
 obtain rfl := vint_eq hv4
 refine lw_op rfl rfl rfl (ow_build (v := .agg #[(.int .i64 x1.1), (.int .i64 x2.1), (.int .i64 x3.1), (.int .i64 x4.1)]) rfl rfl (by kernel_rfl) ?_)
 have hw1 : VRep RPacket w5 (Add g1 M) ({ From := x1.1, To := x2.1, Port := x3.1, Proto := x4.1 } : Packet) (.agg #[(.int .i64 x1.1), (.int .i64 x2.1), (.int .i64 x3.1), (.int .i64 x4.1)]) := shut_Packet
 refine lw_op rfl rfl rfl (ow_alloc rfl (Tryd.zeroValue45 _) hC5 fun g2 w6 hg3 hg4 ho11 hb6 hl6 hC6 => ?_)
 have hn2 := Nat.ne_of_lt (Nat.lt_of_lt_of_le ho9.lt hg3)
 have ho12 := ho9.no hb6
 have hm3 : (Add g2 (Add g1 M)) g := .inr hm1
 have hn3 := Nat.ne_of_lt (Nat.lt_of_lt_of_le ho10.lt hg3)
 have ho13 := ho10.no hb6
 have hm4 : (Add g2 (Add g1 M)) g1 := .inr hm2
 have hm5 : (Add g2 (Add g1 M)) g2 := .inl rfl
 refine lw_op0 rfl rfl (ow_store (X := (One g)) (us := [(.int .i64 x1.1), (.int .i64 x2.1), (.int .i64 x3.1), (.int .i64 x4.1)]) (cs' := #[(.int .i64 x1.1), (.int .i64 x2.1), (.int .i64 x3.1), (.int .i64 x4.1)]) rfl rfl rfl rfl ho11 (Tryd.sizeOf45 _) rfl rfl rfl rfl hm5 (.inl hg4) rfl hC6 fun w7 ho14 hb7 hl7 hC7 => ?_)
 have ho15 := ho12.go hb7 (fun e => hn2 e)
 have ho16 := ho13.go hb7 (fun e => hn3 e)
 refine lw_nil (ew_then (cw_seq (cw_seq (cw_region (lw_op rfl rfl rfl (ow_move rfl rfl ?_))))))
 replace h := bind_some h
 obtain ⟨x5, hx5, h⟩ := h
 refine lw_op rfl rfl rfl (ow_call rfl rfl Tryd.call87 (w_spec_l20Rd_pick (hG.mono ((((((hl1.trans hl2).trans hl3).trans hl4).trans hl5).trans hl6).trans hl7)) hC7.old (VRep.mono ((((((hl1.trans hl2).trans hl3).trans hl4).trans hl5).trans hl6).trans hl7) hxs) ho15 hm3 hx5) fun v5 w8 hv5 => ?_)
 obtain ⟨⟨hv5, ho17⟩, hb8⟩ := hv5
 have hl8 := Le.of_bx (Add g2 (Add g1 M)) hb8 (fun b e => (by rw [show b = g from e]; exact hm3))
 have hC8 := hC7.go hb8 (fun b e => Or.inr e)
 have ho18 := ho16.go hb8 (fun e => hn1 e.symm)
 have ho19 := ho14.go hb8 (fun e => hn2 e.symm)
 obtain rfl := vint_eq hv5
 refine lw_op rfl rfl rfl (ow_eqlI rfl rfl rfl fun bb1 hbb1 => ?_)
 refine lw_nil (ew_then ?_)
 replace h := cond_some h
 rcases h with ⟨hc1, h⟩ | ⟨hc1, h⟩
 ·
  obtain rfl := hbb1.trans hc1
  refine cw_true rfl ?_
  refine cw_seq (cw_region (lw_op rfl rfl rfl (ow_move rfl rfl ?_)))
  replace h := bind_some h
  obtain ⟨x6, hx6, h⟩ := h
  refine lw_op rfl rfl rfl (ow_call rfl rfl Tryd.call87 (w_spec_l20Rd_pick (hG.mono (((((((hl1.trans hl2).trans hl3).trans hl4).trans hl5).trans hl6).trans hl7).trans hl8)) hC8.old (VRep.mono (((((((hl1.trans hl2).trans hl3).trans hl4).trans hl5).trans hl6).trans hl7).trans hl8) hxs) ho17 hm3 hx6) fun v6 w9 hv6 => ?_)
  obtain ⟨⟨hv6, ho20⟩, hb9⟩ := hv6
  have hl9 := Le.of_bx (Add g2 (Add g1 M)) hb9 (fun b e => (by rw [show b = g from e]; exact hm3))
  have hC9 := hC8.go hb9 (fun b e => Or.inr e)
  have ho21 := ho18.go hb9 (fun e => hn1 e.symm)
  have ho22 := ho19.go hb9 (fun e => hn2 e.symm)
  obtain rfl := vint_eq hv6
  refine lw_op rfl rfl rfl (ow_mul rfl rfl rfl ?_)
  refine lw_op rfl rfl rfl (ow_move rfl rfl ?_)
  replace h := bind_some h
  obtain ⟨x7, hx7, h⟩ := h
  refine lw_op rfl rfl rfl (ow_call rfl rfl Tryd.call87 (w_spec_l20Rd_pick (hG.mono ((((((((hl1.trans hl2).trans hl3).trans hl4).trans hl5).trans hl6).trans hl7).trans hl8).trans hl9)) hC9.old (VRep.mono ((((((((hl1.trans hl2).trans hl3).trans hl4).trans hl5).trans hl6).trans hl7).trans hl8).trans hl9) hxs) ho20 hm3 hx7) fun v7 w10 hv7 => ?_)
  obtain ⟨⟨hv7, ho23⟩, hb10⟩ := hv7
  have hl10 := Le.of_bx (Add g2 (Add g1 M)) hb10 (fun b e => (by rw [show b = g from e]; exact hm3))
  have hC10 := hC9.go hb10 (fun b e => Or.inr e)
  have ho24 := ho21.go hb10 (fun e => hn1 e.symm)
  have ho25 := ho22.go hb10 (fun e => hn2 e.symm)
  obtain rfl := vint_eq hv7
  refine lw_op rfl rfl rfl (ow_add rfl rfl rfl ?_)
  refine lw_op rfl rfl rfl (ow_fieldAddr rfl rfl Tryd.underlying45 rfl (Tryd.sizeOf3 _) ?_)
  refine lw_op0 rfl rfl (ow_store (X := (One g)) (us := [(.int .i64 (W ((W (x6.1 * 256)) + x7.1)))]) (cs' := #[(.int .i64 (W ((W (x6.1 * 256)) + x7.1))), (.int .i64 x2.1), (.int .i64 x3.1), (.int .i64 x4.1)]) rfl rfl rfl rfl ho25 (Tryd.sizeOf3 _) rfl rfl rfl rfl hm5 (.inl hg4) rfl hC10 fun w11 ho26 hb11 hl11 hC11 => ?_)
  have ho27 := ho23.go hb11 (fun e => hn2 e)
  have ho28 := ho24.go hb11 (fun e => hn3 e)
  refine lw_nil (ew_then (cw_seq (cw_region (lw_op rfl rfl rfl (ow_move rfl rfl ?_)))))
  replace h := bind_some h
  obtain ⟨x8, hx8, h⟩ := h
  refine lw_op rfl rfl rfl (ow_call rfl rfl Tryd.call87 (w_spec_l20Rd_pick (hG.mono ((((((((((hl1.trans hl2).trans hl3).trans hl4).trans hl5).trans hl6).trans hl7).trans hl8).trans hl9).trans hl10).trans hl11)) hC11.old (VRep.mono ((((((((((hl1.trans hl2).trans hl3).trans hl4).trans hl5).trans hl6).trans hl7).trans hl8).trans hl9).trans hl10).trans hl11) hxs) ho27 hm3 hx8) fun v8 w12 hv8 => ?_)
  obtain ⟨⟨hv8, ho29⟩, hb12⟩ := hv8
  have hl12 := Le.of_bx (Add g2 (Add g1 M)) hb12 (fun b e => (by rw [show b = g from e]; exact hm3))
  have hC12 := hC11.go hb12 (fun b e => Or.inr e)
  have ho30 := ho28.go hb12 (fun e => hn1 e.symm)
  have ho31 := ho26.go hb12 (fun e => hn2 e.symm)
  obtain rfl := vint_eq hv8
  refine lw_op rfl rfl rfl (ow_mul rfl rfl rfl ?_)
  refine lw_op rfl rfl rfl (ow_move rfl rfl ?_)
  replace h := bind_some h
  obtain ⟨x9, hx9, h⟩ := h
  refine lw_op rfl rfl rfl (ow_call rfl rfl Tryd.call87 (w_spec_l20Rd_pick (hG.mono (((((((((((hl1.trans hl2).trans hl3).trans hl4).trans hl5).trans hl6).trans hl7).trans hl8).trans hl9).trans hl10).trans hl11).trans hl12)) hC12.old (VRep.mono (((((((((((hl1.trans hl2).trans hl3).trans hl4).trans hl5).trans hl6).trans hl7).trans hl8).trans hl9).trans hl10).trans hl11).trans hl12) hxs) ho29 hm3 hx9) fun v9 w13 hv9 => ?_)
  obtain ⟨⟨hv9, ho32⟩, hb13⟩ := hv9
  have hl13 := Le.of_bx (Add g2 (Add g1 M)) hb13 (fun b e => (by rw [show b = g from e]; exact hm3))
  have hC13 := hC12.go hb13 (fun b e => Or.inr e)
  have ho33 := ho30.go hb13 (fun e => hn1 e.symm)
  have ho34 := ho31.go hb13 (fun e => hn2 e.symm)
  obtain rfl := vint_eq hv9
  refine lw_op rfl rfl rfl (ow_add rfl rfl rfl ?_)
  refine lw_op rfl rfl rfl (ow_fieldAddr rfl rfl Tryd.underlying45 rfl (Tryd.sizeOf3 _) ?_)
  refine lw_op0 rfl rfl (ow_store (X := (One g)) (us := [(.int .i64 (W ((W (x8.1 * 16384)) + x9.1)))]) (cs' := #[(.int .i64 (W ((W (x6.1 * 256)) + x7.1))), (.int .i64 (W ((W (x8.1 * 16384)) + x9.1))), (.int .i64 x3.1), (.int .i64 x4.1)]) rfl rfl rfl rfl ho34 (Tryd.sizeOf3 _) rfl rfl rfl rfl hm5 (.inl hg4) rfl hC13 fun w14 ho35 hb14 hl14 hC14 => ?_)
  have ho36 := ho32.go hb14 (fun e => hn2 e)
  have ho37 := ho33.go hb14 (fun e => hn3 e)
  refine lw_nil (ew_then (cw_region (lw_op rfl rfl rfl (ow_move rfl rfl ?_))))
  replace h := bind_some h
  obtain ⟨x10, hx10, h⟩ := h
  refine lw_op rfl rfl rfl (ow_call rfl rfl Tryd.call87 (w_spec_l20Rd_pick (hG.mono (((((((((((((hl1.trans hl2).trans hl3).trans hl4).trans hl5).trans hl6).trans hl7).trans hl8).trans hl9).trans hl10).trans hl11).trans hl12).trans hl13).trans hl14)) hC14.old (VRep.mono (((((((((((((hl1.trans hl2).trans hl3).trans hl4).trans hl5).trans hl6).trans hl7).trans hl8).trans hl9).trans hl10).trans hl11).trans hl12).trans hl13).trans hl14) hxs) ho36 hm3 hx10) fun v10 w15 hv10 => ?_)
  obtain ⟨⟨hv10, ho38⟩, hb15⟩ := hv10
  have hl15 := Le.of_bx (Add g2 (Add g1 M)) hb15 (fun b e => (by rw [show b = g from e]; exact hm3))
  have hC15 := hC14.go hb15 (fun b e => Or.inr e)
  have ho39 := ho37.go hb15 (fun e => hn1 e.symm)
  have ho40 := ho35.go hb15 (fun e => hn2 e.symm)
  obtain rfl := vint_eq hv10
  refine lw_op rfl rfl rfl (ow_fieldAddr rfl rfl Tryd.underlying45 rfl (Tryd.sizeOf3 _) ?_)
  refine lw_op0 rfl rfl (ow_store (X := (One g)) (us := [(.int .i64 x10.1)]) (cs' := #[(.int .i64 (W ((W (x6.1 * 256)) + x7.1))), (.int .i64 (W ((W (x8.1 * 16384)) + x9.1))), (.int .i64 x10.1), (.int .i64 x4.1)]) rfl rfl rfl rfl ho40 (Tryd.sizeOf3 _) rfl rfl rfl rfl hm5 (.inl hg4) rfl hC15 fun w16 ho41 hb16 hl16 hC16 => ?_)
  have ho42 := ho38.go hb16 (fun e => hn2 e)
  have ho43 := ho39.go hb16 (fun e => hn3 e)
  refine lw_nil (ew_then (cw_seq (cw_seq (cw_region (lw_op rfl rfl rfl (ow_move rfl rfl ?_))))))
  refine lw_op rfl rfl rfl (ow_move rfl rfl ?_)
  replace h := bind_some h
  obtain ⟨x11, hx11, h⟩ := h
  refine lw_op rfl rfl rfl (ow_call rfl rfl Tryd.call92 (w_spec_l20Rd_odd (hG.mono (((((((((((((((hl1.trans hl2).trans hl3).trans hl4).trans hl5).trans hl6).trans hl7).trans hl8).trans hl9).trans hl10).trans hl11).trans hl12).trans hl13).trans hl14).trans hl15).trans hl16)) hC16.old (VRep.mono (((((((((((((((hl1.trans hl2).trans hl3).trans hl4).trans hl5).trans hl6).trans hl7).trans hl8).trans hl9).trans hl10).trans hl11).trans hl12).trans hl13).trans hl14).trans hl15).trans hl16) hxs) ho42 hm3 hx11) fun v11 w17 hv11 => ?_)
  obtain ⟨⟨hv11, ho44⟩, hb17⟩ := hv11
  have hl17 := Le.of_bx (Add g2 (Add g1 M)) hb17 (fun b e => (by rw [show b = g from e]; exact hm3))
  have hC17 := hC16.go hb17 (fun b e => Or.inr e)
  have ho45 := ho43.go hb17 (fun e => hn1 e.symm)
  have ho46 := ho41.go hb17 (fun e => hn2 e.symm)
  obtain ⟨bb2, hbb2, rfl⟩ := vbool_ex hv11
  refine lw_nil (ew_then ?_)
  replace h := cond_some h
  rcases h with ⟨hc2, h⟩ | ⟨hc2, h⟩
  ·
   obtain rfl := hbb2.trans hc2
   refine cw_true rfl ?_
   refine cw_seq (cw_region (lw_op rfl rfl rfl (ow_move rfl rfl ?_)))
   replace h := bind_some h
   obtain ⟨x12, hx12, h⟩ := h
   refine lw_op rfl rfl rfl (ow_call rfl rfl Tryd.call87 (w_spec_l20Rd_pick (hG.mono ((((((((((((((((hl1.trans hl2).trans hl3).trans hl4).trans hl5).trans hl6).trans hl7).trans hl8).trans hl9).trans hl10).trans hl11).trans hl12).trans hl13).trans hl14).trans hl15).trans hl16).trans hl17)) hC17.old (VRep.mono ((((((((((((((((hl1.trans hl2).trans hl3).trans hl4).trans hl5).trans hl6).trans hl7).trans hl8).trans hl9).trans hl10).trans hl11).trans hl12).trans hl13).trans hl14).trans hl15).trans hl16).trans hl17) hxs) ho44 hm3 hx12) fun v12 w18 hv12 => ?_)
   obtain ⟨⟨hv12, ho47⟩, hb18⟩ := hv12
   have hl18 := Le.of_bx (Add g2 (Add g1 M)) hb18 (fun b e => (by rw [show b = g from e]; exact hm3))
   have hC18 := hC17.go hb18 (fun b e => Or.inr e)
   have ho48 := ho45.go hb18 (fun e => hn1 e.symm)
   have ho49 := ho46.go hb18 (fun e => hn2 e.symm)
   obtain rfl := vint_eq hv12
   refine lw_nil (ew_then (cw_block ?_))
   refine cw_seq (cw_region (lw_op rfl rfl rfl (ow_eqlI rfl rfl rfl fun bb3 hbb3 => ?_)))
   refine lw_op rfl rfl rfl (ow_assign rfl rfl ?_)
   refine lw_nil (ew_then ?_)
   replace h := cond_some h
   rcases h with ⟨hc3, h⟩ | ⟨hc3, h⟩
   ·
    obtain rfl := hbb3.trans hc3
    refine cw_true rfl ?_
    refine cw_region (lw_op rfl rfl rfl (ow_buildSlice (R := RInt) (xs := [(-1), 65536]) (cs := #[(.int .i64 (-1)), (.int .i64 65536)]) (e := 3) rfl rfl (by kernel_rfl) rfl rfl ⟨_, _, rfl, (vint _).cells, _, _, rfl, (vint _).cells, rfl⟩ hC18 fun p1 w19 hw2 hb19 hl19 hC19 => ?_))
    have ho50 := ho47.no hb19
    have ho51 := ho48.no hb19
    have ho52 := ho49.no hb19
    refine lw_op rfl rfl rfl (ow_move rfl rfl ?_)
    replace h := bind_some h
    obtain ⟨x13, hx13, h⟩ := h
    refine lw_op rfl rfl rfl (ow_call rfl rfl Tryd.call87 (w_spec_l20Rd_pick (hG.mono ((((((((((((((((((hl1.trans hl2).trans hl3).trans hl4).trans hl5).trans hl6).trans hl7).trans hl8).trans hl9).trans hl10).trans hl11).trans hl12).trans hl13).trans hl14).trans hl15).trans hl16).trans hl17).trans hl18).trans hl19)) hC19.old (VRep.mono ((((((((((((((((((hl1.trans hl2).trans hl3).trans hl4).trans hl5).trans hl6).trans hl7).trans hl8).trans hl9).trans hl10).trans hl11).trans hl12).trans hl13).trans hl14).trans hl15).trans hl16).trans hl17).trans hl18).trans hl19) hxs) ho50 hm3 hx13) fun v13 w20 hv13 => ?_)
    obtain ⟨⟨hv13, ho53⟩, hb20⟩ := hv13
    have hl20 := Le.of_bx (Add g2 (Add g1 M)) hb20 (fun b e => (by rw [show b = g from e]; exact hm3))
    have hC20 := hC19.go hb20 (fun b e => Or.inr e)
    have ho54 := ho51.go hb20 (fun e => hn1 e.symm)
    have ho55 := ho52.go hb20 (fun e => hn2 e.symm)
    obtain rfl := vint_eq hv13
    replace h := bind_some h
    obtain ⟨x14, hx14, h⟩ := h
    refine lw_op rfl rfl rfl (ow_indexSlice (R := RInt) rfl rfl rfl (VRep.mono hl20 hw2) Tryd.underlying84 (Tryd.sizeOf3 _) hx14 fun p2 hp2 => ?_)
    refine lw_op rfl rfl rfl (ow_load (R := RInt) rfl rfl hp2 (Tryd.sizeOf3 _) (Tryd.isAgg3 _) fun v14 hv14 => ?_)
    obtain rfl := vint_eq hv14
    refine lw_op rfl rfl rfl (ow_fieldAddr rfl rfl Tryd.underlying45 rfl (Tryd.sizeOf3 _) ?_)
    refine lw_op0 rfl rfl (ow_store (X := (One g)) (us := [(.int .i64 x14)]) (cs' := #[(.int .i64 x14), (.int .i64 (W ((W (x8.1 * 16384)) + x9.1))), (.int .i64 x10.1), (.int .i64 x4.1)]) rfl rfl rfl rfl ho55 (Tryd.sizeOf3 _) rfl rfl rfl rfl hm5 (.inl hg4) rfl hC20 fun w21 ho56 hb21 hl21 hC21 => ?_)
    have ho57 := ho53.go hb21 (fun e => hn2 e)
    have ho58 := ho54.go hb21 (fun e => hn3 e)
    refine lw_nil (ew_blockN ?_)
    refine ew_then (cw_seq (cw_region (lw_op rfl rfl rfl (ow_loadOwnA rfl rfl rfl ho56 (Tryd.isAgg45 _) (Tryd.sizeOf45 _) rfl ?_))))
    have hw3 : VRep RPacket w21 (Add g2 (Add g1 M)) ({ From := x14, To := (W ((W (x8.1 * 16384)) + x9.1)), Port := x10.1, Proto := x4.1 } : Packet) (.agg #[(.int .i64 x14), (.int .i64 (W ((W (x8.1 * 16384)) + x9.1))), (.int .i64 x10.1), (.int .i64 x4.1)]) := shut_Packet
    refine lw_op0 rfl rfl (ow_store (X := (One g)) (us := [(.int .i64 x14), (.int .i64 (W ((W (x8.1 * 16384)) + x9.1))), (.int .i64 x10.1), (.int .i64 x4.1)]) (cs' := #[(.int .i64 x14), (.int .i64 (W ((W (x8.1 * 16384)) + x9.1))), (.int .i64 x10.1), (.int .i64 x4.1)]) rfl rfl rfl rfl ho58 (Tryd.sizeOf45 _) rfl rfl rfl rfl hm4 (.inl hg2) rfl hC21 fun w22 ho59 hb22 hl22 hC22 => ?_)
    have ho60 := ho57.go hb22 (fun e => hn1 e)
    have ho61 := ho56.go hb22 (fun e => hn3 e.symm)
    refine lw_nil (ew_then (cw_ret ?_))
    have hw4 : VRep RPacket w22 (Add g2 (Add g1 M)) ({ From := x14, To := (W ((W (x8.1 * 16384)) + x9.1)), Port := x10.1, Proto := x4.1 } : Packet) (.agg #[(.int .i64 x14), (.int .i64 (W ((W (x8.1 * 16384)) + x9.1))), (.int .i64 x10.1), (.int .i64 x4.1)]) := shut_Packet
    obtain rfl := Option.some.inj h
    exact ew_ret (res1 rfl (.cell rfl (own_loadVarA ho59 (Tryd.isAgg45 _) (Tryd.sizeOf45 _) rfl))) ⟨_, rfl, ⟨(hw4.mono hC22.back), ho60⟩, hC22.bx⟩
   ·
    obtain rfl := hbb3.trans hc3
    refine cw_false rfl ?_
    refine cw_seq (cw_region (lw_op rfl rfl rfl (ow_eqlI rfl rfl rfl fun bb4 hbb4 => ?_)))
    refine lw_op rfl rfl rfl (ow_assign rfl rfl ?_)
    refine lw_nil (ew_then ?_)
    replace h := cond_some h
    rcases h with ⟨hc4, h⟩ | ⟨hc4, h⟩
    ·
     obtain rfl := hbb4.trans hc4
     refine cw_true rfl ?_
     refine cw_region (lw_op rfl rfl rfl (ow_buildSlice (R := RInt) (xs := [(-1), 65536]) (cs := #[(.int .i64 (-1)), (.int .i64 65536)]) (e := 3) rfl rfl (by kernel_rfl) rfl rfl ⟨_, _, rfl, (vint _).cells, _, _, rfl, (vint _).cells, rfl⟩ hC18 fun p3 w23 hw5 hb23 hl23 hC23 => ?_))
     have ho62 := ho47.no hb23
     have ho63 := ho48.no hb23
     have ho64 := ho49.no hb23
     refine lw_op rfl rfl rfl (ow_move rfl rfl ?_)
     replace h := bind_some h
     obtain ⟨x15, hx15, h⟩ := h
     refine lw_op rfl rfl rfl (ow_call rfl rfl Tryd.call87 (w_spec_l20Rd_pick (hG.mono ((((((((((((((((((hl1.trans hl2).trans hl3).trans hl4).trans hl5).trans hl6).trans hl7).trans hl8).trans hl9).trans hl10).trans hl11).trans hl12).trans hl13).trans hl14).trans hl15).trans hl16).trans hl17).trans hl18).trans hl23)) hC23.old (VRep.mono ((((((((((((((((((hl1.trans hl2).trans hl3).trans hl4).trans hl5).trans hl6).trans hl7).trans hl8).trans hl9).trans hl10).trans hl11).trans hl12).trans hl13).trans hl14).trans hl15).trans hl16).trans hl17).trans hl18).trans hl23) hxs) ho62 hm3 hx15) fun v15 w24 hv15 => ?_)
     obtain ⟨⟨hv15, ho65⟩, hb24⟩ := hv15
     have hl24 := Le.of_bx (Add g2 (Add g1 M)) hb24 (fun b e => (by rw [show b = g from e]; exact hm3))
     have hC24 := hC23.go hb24 (fun b e => Or.inr e)
     have ho66 := ho63.go hb24 (fun e => hn1 e.symm)
     have ho67 := ho64.go hb24 (fun e => hn2 e.symm)
     obtain rfl := vint_eq hv15
     replace h := bind_some h
     obtain ⟨x16, hx16, h⟩ := h
     refine lw_op rfl rfl rfl (ow_indexSlice (R := RInt) rfl rfl rfl (VRep.mono hl24 hw5) Tryd.underlying84 (Tryd.sizeOf3 _) hx16 fun p4 hp4 => ?_)
     refine lw_op rfl rfl rfl (ow_load (R := RInt) rfl rfl hp4 (Tryd.sizeOf3 _) (Tryd.isAgg3 _) fun v16 hv16 => ?_)
     obtain rfl := vint_eq hv16
     refine lw_op rfl rfl rfl (ow_fieldAddr rfl rfl Tryd.underlying45 rfl (Tryd.sizeOf3 _) ?_)
     refine lw_op0 rfl rfl (ow_store (X := (One g)) (us := [(.int .i64 x16)]) (cs' := #[(.int .i64 (W ((W (x6.1 * 256)) + x7.1))), (.int .i64 x16), (.int .i64 x10.1), (.int .i64 x4.1)]) rfl rfl rfl rfl ho67 (Tryd.sizeOf3 _) rfl rfl rfl rfl hm5 (.inl hg4) rfl hC24 fun w25 ho68 hb25 hl25 hC25 => ?_)
     have ho69 := ho65.go hb25 (fun e => hn2 e)
     have ho70 := ho66.go hb25 (fun e => hn3 e)
     refine lw_nil (ew_blockN ?_)
     refine ew_then (cw_seq (cw_region (lw_op rfl rfl rfl (ow_loadOwnA rfl rfl rfl ho68 (Tryd.isAgg45 _) (Tryd.sizeOf45 _) rfl ?_))))
     have hw6 : VRep RPacket w25 (Add g2 (Add g1 M)) ({ From := (W ((W (x6.1 * 256)) + x7.1)), To := x16, Port := x10.1, Proto := x4.1 } : Packet) (.agg #[(.int .i64 (W ((W (x6.1 * 256)) + x7.1))), (.int .i64 x16), (.int .i64 x10.1), (.int .i64 x4.1)]) := shut_Packet
     refine lw_op0 rfl rfl (ow_store (X := (One g)) (us := [(.int .i64 (W ((W (x6.1 * 256)) + x7.1))), (.int .i64 x16), (.int .i64 x10.1), (.int .i64 x4.1)]) (cs' := #[(.int .i64 (W ((W (x6.1 * 256)) + x7.1))), (.int .i64 x16), (.int .i64 x10.1), (.int .i64 x4.1)]) rfl rfl rfl rfl ho70 (Tryd.sizeOf45 _) rfl rfl rfl rfl hm4 (.inl hg2) rfl hC25 fun w26 ho71 hb26 hl26 hC26 => ?_)
     have ho72 := ho69.go hb26 (fun e => hn1 e)
     have ho73 := ho68.go hb26 (fun e => hn3 e.symm)
     refine lw_nil (ew_then (cw_ret ?_))
     have hw7 : VRep RPacket w26 (Add g2 (Add g1 M)) ({ From := (W ((W (x6.1 * 256)) + x7.1)), To := x16, Port := x10.1, Proto := x4.1 } : Packet) (.agg #[(.int .i64 (W ((W (x6.1 * 256)) + x7.1))), (.int .i64 x16), (.int .i64 x10.1), (.int .i64 x4.1)]) := shut_Packet
     obtain rfl := Option.some.inj h
     exact ew_ret (res1 rfl (.cell rfl (own_loadVarA ho71 (Tryd.isAgg45 _) (Tryd.sizeOf45 _) rfl))) ⟨_, rfl, ⟨(hw7.mono hC26.back), ho72⟩, hC26.bx⟩
    ·
     obtain rfl := hbb4.trans hc4
     refine cw_false rfl ?_
     refine cw_seq (cw_region (lw_op rfl rfl rfl (ow_eqlI rfl rfl rfl fun bb5 hbb5 => ?_)))
     refine lw_op rfl rfl rfl (ow_assign rfl rfl ?_)
     refine lw_nil (ew_then ?_)
     replace h := cond_some h
     rcases h with ⟨hc5, h⟩ | ⟨hc5, h⟩
     ·
      obtain rfl := hbb5.trans hc5
      refine cw_true rfl ?_
      refine cw_region (lw_op rfl rfl rfl (ow_buildSlice (R := RInt) (xs := [(-1), 256]) (cs := #[(.int .i64 (-1)), (.int .i64 256)]) (e := 3) rfl rfl (by kernel_rfl) rfl rfl ⟨_, _, rfl, (vint _).cells, _, _, rfl, (vint _).cells, rfl⟩ hC18 fun p5 w27 hw8 hb27 hl27 hC27 => ?_))
      have ho74 := ho47.no hb27
      have ho75 := ho48.no hb27
      have ho76 := ho49.no hb27
      refine lw_op rfl rfl rfl (ow_move rfl rfl ?_)
      replace h := bind_some h
      obtain ⟨x17, hx17, h⟩ := h
      refine lw_op rfl rfl rfl (ow_call rfl rfl Tryd.call87 (w_spec_l20Rd_pick (hG.mono ((((((((((((((((((hl1.trans hl2).trans hl3).trans hl4).trans hl5).trans hl6).trans hl7).trans hl8).trans hl9).trans hl10).trans hl11).trans hl12).trans hl13).trans hl14).trans hl15).trans hl16).trans hl17).trans hl18).trans hl27)) hC27.old (VRep.mono ((((((((((((((((((hl1.trans hl2).trans hl3).trans hl4).trans hl5).trans hl6).trans hl7).trans hl8).trans hl9).trans hl10).trans hl11).trans hl12).trans hl13).trans hl14).trans hl15).trans hl16).trans hl17).trans hl18).trans hl27) hxs) ho74 hm3 hx17) fun v17 w28 hv17 => ?_)
      obtain ⟨⟨hv17, ho77⟩, hb28⟩ := hv17
      have hl28 := Le.of_bx (Add g2 (Add g1 M)) hb28 (fun b e => (by rw [show b = g from e]; exact hm3))
      have hC28 := hC27.go hb28 (fun b e => Or.inr e)
      have ho78 := ho75.go hb28 (fun e => hn1 e.symm)
      have ho79 := ho76.go hb28 (fun e => hn2 e.symm)
      obtain rfl := vint_eq hv17
      replace h := bind_some h
      obtain ⟨x18, hx18, h⟩ := h
      refine lw_op rfl rfl rfl (ow_indexSlice (R := RInt) rfl rfl rfl (VRep.mono hl28 hw8) Tryd.underlying84 (Tryd.sizeOf3 _) hx18 fun p6 hp6 => ?_)
      refine lw_op rfl rfl rfl (ow_load (R := RInt) rfl rfl hp6 (Tryd.sizeOf3 _) (Tryd.isAgg3 _) fun v18 hv18 => ?_)
      obtain rfl := vint_eq hv18
      refine lw_op rfl rfl rfl (ow_fieldAddr rfl rfl Tryd.underlying45 rfl (Tryd.sizeOf3 _) ?_)
      refine lw_op0 rfl rfl (ow_store (X := (One g)) (us := [(.int .i64 x18)]) (cs' := #[(.int .i64 (W ((W (x6.1 * 256)) + x7.1))), (.int .i64 (W ((W (x8.1 * 16384)) + x9.1))), (.int .i64 x18), (.int .i64 x4.1)]) rfl rfl rfl rfl ho79 (Tryd.sizeOf3 _) rfl rfl rfl rfl hm5 (.inl hg4) rfl hC28 fun w29 ho80 hb29 hl29 hC29 => ?_)
      have ho81 := ho77.go hb29 (fun e => hn2 e)
      have ho82 := ho78.go hb29 (fun e => hn3 e)
      refine lw_nil (ew_blockN ?_)
      refine ew_then (cw_seq (cw_region (lw_op rfl rfl rfl (ow_loadOwnA rfl rfl rfl ho80 (Tryd.isAgg45 _) (Tryd.sizeOf45 _) rfl ?_))))
      have hw9 : VRep RPacket w29 (Add g2 (Add g1 M)) ({ From := (W ((W (x6.1 * 256)) + x7.1)), To := (W ((W (x8.1 * 16384)) + x9.1)), Port := x18, Proto := x4.1 } : Packet) (.agg #[(.int .i64 (W ((W (x6.1 * 256)) + x7.1))), (.int .i64 (W ((W (x8.1 * 16384)) + x9.1))), (.int .i64 x18), (.int .i64 x4.1)]) := shut_Packet
      refine lw_op0 rfl rfl (ow_store (X := (One g)) (us := [(.int .i64 (W ((W (x6.1 * 256)) + x7.1))), (.int .i64 (W ((W (x8.1 * 16384)) + x9.1))), (.int .i64 x18), (.int .i64 x4.1)]) (cs' := #[(.int .i64 (W ((W (x6.1 * 256)) + x7.1))), (.int .i64 (W ((W (x8.1 * 16384)) + x9.1))), (.int .i64 x18), (.int .i64 x4.1)]) rfl rfl rfl rfl ho82 (Tryd.sizeOf45 _) rfl rfl rfl rfl hm4 (.inl hg2) rfl hC29 fun w30 ho83 hb30 hl30 hC30 => ?_)
      have ho84 := ho81.go hb30 (fun e => hn1 e)
      have ho85 := ho80.go hb30 (fun e => hn3 e.symm)
      refine lw_nil (ew_then (cw_ret ?_))
      have hw10 : VRep RPacket w30 (Add g2 (Add g1 M)) ({ From := (W ((W (x6.1 * 256)) + x7.1)), To := (W ((W (x8.1 * 16384)) + x9.1)), Port := x18, Proto := x4.1 } : Packet) (.agg #[(.int .i64 (W ((W (x6.1 * 256)) + x7.1))), (.int .i64 (W ((W (x8.1 * 16384)) + x9.1))), (.int .i64 x18), (.int .i64 x4.1)]) := shut_Packet
      obtain rfl := Option.some.inj h
      exact ew_ret (res1 rfl (.cell rfl (own_loadVarA ho83 (Tryd.isAgg45 _) (Tryd.sizeOf45 _) rfl))) ⟨_, rfl, ⟨(hw10.mono hC30.back), ho84⟩, hC30.bx⟩
     ·
      obtain rfl := hbb5.trans hc5
      refine cw_false rfl ?_
      refine cw_region (lw_op rfl rfl rfl (ow_buildSlice (R := RInt) (xs := [(-1), 8]) (cs := #[(.int .i64 (-1)), (.int .i64 8)]) (e := 3) rfl rfl (by kernel_rfl) rfl rfl ⟨_, _, rfl, (vint _).cells, _, _, rfl, (vint _).cells, rfl⟩ hC18 fun p7 w31 hw11 hb31 hl31 hC31 => ?_))
      have ho86 := ho47.no hb31
      have ho87 := ho48.no hb31
      have ho88 := ho49.no hb31
      refine lw_op rfl rfl rfl (ow_move rfl rfl ?_)
      replace h := bind_some h
      obtain ⟨x19, hx19, h⟩ := h
      refine lw_op rfl rfl rfl (ow_call rfl rfl Tryd.call87 (w_spec_l20Rd_pick (hG.mono ((((((((((((((((((hl1.trans hl2).trans hl3).trans hl4).trans hl5).trans hl6).trans hl7).trans hl8).trans hl9).trans hl10).trans hl11).trans hl12).trans hl13).trans hl14).trans hl15).trans hl16).trans hl17).trans hl18).trans hl31)) hC31.old (VRep.mono ((((((((((((((((((hl1.trans hl2).trans hl3).trans hl4).trans hl5).trans hl6).trans hl7).trans hl8).trans hl9).trans hl10).trans hl11).trans hl12).trans hl13).trans hl14).trans hl15).trans hl16).trans hl17).trans hl18).trans hl31) hxs) ho86 hm3 hx19) fun v19 w32 hv19 => ?_)
      obtain ⟨⟨hv19, ho89⟩, hb32⟩ := hv19
      have hl32 := Le.of_bx (Add g2 (Add g1 M)) hb32 (fun b e => (by rw [show b = g from e]; exact hm3))
      have hC32 := hC31.go hb32 (fun b e => Or.inr e)
      have ho90 := ho87.go hb32 (fun e => hn1 e.symm)
      have ho91 := ho88.go hb32 (fun e => hn2 e.symm)
      obtain rfl := vint_eq hv19
      replace h := bind_some h
      obtain ⟨x20, hx20, h⟩ := h
      refine lw_op rfl rfl rfl (ow_indexSlice (R := RInt) rfl rfl rfl (VRep.mono hl32 hw11) Tryd.underlying84 (Tryd.sizeOf3 _) hx20 fun p8 hp8 => ?_)
      refine lw_op rfl rfl rfl (ow_load (R := RInt) rfl rfl hp8 (Tryd.sizeOf3 _) (Tryd.isAgg3 _) fun v20 hv20 => ?_)
      obtain rfl := vint_eq hv20
      refine lw_op rfl rfl rfl (ow_fieldAddr rfl rfl Tryd.underlying45 rfl (Tryd.sizeOf3 _) ?_)
      refine lw_op0 rfl rfl (ow_store (X := (One g)) (us := [(.int .i64 x20)]) (cs' := #[(.int .i64 (W ((W (x6.1 * 256)) + x7.1))), (.int .i64 (W ((W (x8.1 * 16384)) + x9.1))), (.int .i64 x10.1), (.int .i64 x20)]) rfl rfl rfl rfl ho91 (Tryd.sizeOf3 _) rfl rfl rfl rfl hm5 (.inl hg4) rfl hC32 fun w33 ho92 hb33 hl33 hC33 => ?_)
      have ho93 := ho89.go hb33 (fun e => hn2 e)
      have ho94 := ho90.go hb33 (fun e => hn3 e)
      refine lw_nil (ew_blockN ?_)
      refine ew_then (cw_seq (cw_region (lw_op rfl rfl rfl (ow_loadOwnA rfl rfl rfl ho92 (Tryd.isAgg45 _) (Tryd.sizeOf45 _) rfl ?_))))
      have hw12 : VRep RPacket w33 (Add g2 (Add g1 M)) ({ From := (W ((W (x6.1 * 256)) + x7.1)), To := (W ((W (x8.1 * 16384)) + x9.1)), Port := x10.1, Proto := x20 } : Packet) (.agg #[(.int .i64 (W ((W (x6.1 * 256)) + x7.1))), (.int .i64 (W ((W (x8.1 * 16384)) + x9.1))), (.int .i64 x10.1), (.int .i64 x20)]) := shut_Packet
      refine lw_op0 rfl rfl (ow_store (X := (One g)) (us := [(.int .i64 (W ((W (x6.1 * 256)) + x7.1))), (.int .i64 (W ((W (x8.1 * 16384)) + x9.1))), (.int .i64 x10.1), (.int .i64 x20)]) (cs' := #[(.int .i64 (W ((W (x6.1 * 256)) + x7.1))), (.int .i64 (W ((W (x8.1 * 16384)) + x9.1))), (.int .i64 x10.1), (.int .i64 x20)]) rfl rfl rfl rfl ho94 (Tryd.sizeOf45 _) rfl rfl rfl rfl hm4 (.inl hg2) rfl hC33 fun w34 ho95 hb34 hl34 hC34 => ?_)
      have ho96 := ho93.go hb34 (fun e => hn1 e)
      have ho97 := ho92.go hb34 (fun e => hn3 e.symm)
      refine lw_nil (ew_then (cw_ret ?_))
      have hw13 : VRep RPacket w34 (Add g2 (Add g1 M)) ({ From := (W ((W (x6.1 * 256)) + x7.1)), To := (W ((W (x8.1 * 16384)) + x9.1)), Port := x10.1, Proto := x20 } : Packet) (.agg #[(.int .i64 (W ((W (x6.1 * 256)) + x7.1))), (.int .i64 (W ((W (x8.1 * 16384)) + x9.1))), (.int .i64 x10.1), (.int .i64 x20)]) := shut_Packet
      obtain rfl := Option.some.inj h
      exact ew_ret (res1 rfl (.cell rfl (own_loadVarA ho95 (Tryd.isAgg45 _) (Tryd.sizeOf45 _) rfl))) ⟨_, rfl, ⟨(hw13.mono hC34.back), ho96⟩, hC34.bx⟩
  ·
   obtain rfl := hbb2.trans hc2
   refine cw_false rfl ?_
   refine cw_skip (ew_then (cw_seq (cw_region (lw_op rfl rfl rfl (ow_loadOwnA rfl rfl rfl ho46 (Tryd.isAgg45 _) (Tryd.sizeOf45 _) rfl ?_)))))
   have hw14 : VRep RPacket w17 (Add g2 (Add g1 M)) ({ From := (W ((W (x6.1 * 256)) + x7.1)), To := (W ((W (x8.1 * 16384)) + x9.1)), Port := x10.1, Proto := x4.1 } : Packet) (.agg #[(.int .i64 (W ((W (x6.1 * 256)) + x7.1))), (.int .i64 (W ((W (x8.1 * 16384)) + x9.1))), (.int .i64 x10.1), (.int .i64 x4.1)]) := shut_Packet
   refine lw_op0 rfl rfl (ow_store (X := (One g)) (us := [(.int .i64 (W ((W (x6.1 * 256)) + x7.1))), (.int .i64 (W ((W (x8.1 * 16384)) + x9.1))), (.int .i64 x10.1), (.int .i64 x4.1)]) (cs' := #[(.int .i64 (W ((W (x6.1 * 256)) + x7.1))), (.int .i64 (W ((W (x8.1 * 16384)) + x9.1))), (.int .i64 x10.1), (.int .i64 x4.1)]) rfl rfl rfl rfl ho45 (Tryd.sizeOf45 _) rfl rfl rfl rfl hm4 (.inl hg2) rfl hC17 fun w35 ho98 hb35 hl35 hC35 => ?_)
   have ho99 := ho44.go hb35 (fun e => hn1 e)
   have ho100 := ho46.go hb35 (fun e => hn3 e.symm)
   refine lw_nil (ew_then (cw_ret ?_))
   have hw15 : VRep RPacket w35 (Add g2 (Add g1 M)) ({ From := (W ((W (x6.1 * 256)) + x7.1)), To := (W ((W (x8.1 * 16384)) + x9.1)), Port := x10.1, Proto := x4.1 } : Packet) (.agg #[(.int .i64 (W ((W (x6.1 * 256)) + x7.1))), (.int .i64 (W ((W (x8.1 * 16384)) + x9.1))), (.int .i64 x10.1), (.int .i64 x4.1)]) := shut_Packet
   obtain rfl := Option.some.inj h
   exact ew_ret (res1 rfl (.cell rfl (own_loadVarA ho98 (Tryd.isAgg45 _) (Tryd.sizeOf45 _) rfl))) ⟨_, rfl, ⟨(hw15.mono hC35.back), ho99⟩, hC35.bx⟩
 ·
  obtain rfl := hbb1.trans hc1
  refine cw_false rfl ?_
  refine cw_skip (ew_then (cw_seq (cw_seq (cw_region (lw_op rfl rfl rfl (ow_move rfl rfl ?_))))))
  refine lw_op rfl rfl rfl (ow_move rfl rfl ?_)
  replace h := bind_some h
  obtain ⟨x21, hx21, h⟩ := h
  refine lw_op rfl rfl rfl (ow_call rfl rfl Tryd.call92 (w_spec_l20Rd_odd (hG.mono (((((((hl1.trans hl2).trans hl3).trans hl4).trans hl5).trans hl6).trans hl7).trans hl8)) hC8.old (VRep.mono (((((((hl1.trans hl2).trans hl3).trans hl4).trans hl5).trans hl6).trans hl7).trans hl8) hxs) ho17 hm3 hx21) fun v21 w36 hv21 => ?_)
  obtain ⟨⟨hv21, ho101⟩, hb36⟩ := hv21
  have hl36 := Le.of_bx (Add g2 (Add g1 M)) hb36 (fun b e => (by rw [show b = g from e]; exact hm3))
  have hC36 := hC8.go hb36 (fun b e => Or.inr e)
  have ho102 := ho18.go hb36 (fun e => hn1 e.symm)
  have ho103 := ho19.go hb36 (fun e => hn2 e.symm)
  obtain ⟨bb6, hbb6, rfl⟩ := vbool_ex hv21
  refine lw_nil (ew_then ?_)
  replace h := cond_some h
  rcases h with ⟨hc6, h⟩ | ⟨hc6, h⟩
  ·
   obtain rfl := hbb6.trans hc6
   refine cw_true rfl ?_
   refine cw_seq (cw_region (lw_op rfl rfl rfl (ow_move rfl rfl ?_)))
   replace h := bind_some h
   obtain ⟨x22, hx22, h⟩ := h
   refine lw_op rfl rfl rfl (ow_call rfl rfl Tryd.call87 (w_spec_l20Rd_pick (hG.mono ((((((((hl1.trans hl2).trans hl3).trans hl4).trans hl5).trans hl6).trans hl7).trans hl8).trans hl36)) hC36.old (VRep.mono ((((((((hl1.trans hl2).trans hl3).trans hl4).trans hl5).trans hl6).trans hl7).trans hl8).trans hl36) hxs) ho101 hm3 hx22) fun v22 w37 hv22 => ?_)
   obtain ⟨⟨hv22, ho104⟩, hb37⟩ := hv22
   have hl37 := Le.of_bx (Add g2 (Add g1 M)) hb37 (fun b e => (by rw [show b = g from e]; exact hm3))
   have hC37 := hC36.go hb37 (fun b e => Or.inr e)
   have ho105 := ho102.go hb37 (fun e => hn1 e.symm)
   have ho106 := ho103.go hb37 (fun e => hn2 e.symm)
   obtain rfl := vint_eq hv22
   refine lw_nil (ew_then (cw_block ?_))
   refine cw_seq (cw_region (lw_op rfl rfl rfl (ow_eqlI rfl rfl rfl fun bb7 hbb7 => ?_)))
   refine lw_op rfl rfl rfl (ow_assign rfl rfl ?_)
   refine lw_nil (ew_then ?_)
   replace h := cond_some h
   rcases h with ⟨hc7, h⟩ | ⟨hc7, h⟩
   ·
    obtain rfl := hbb7.trans hc7
    refine cw_true rfl ?_
    refine cw_region (lw_op rfl rfl rfl (ow_buildSlice (R := RInt) (xs := [(-1), 65536]) (cs := #[(.int .i64 (-1)), (.int .i64 65536)]) (e := 3) rfl rfl (by kernel_rfl) rfl rfl ⟨_, _, rfl, (vint _).cells, _, _, rfl, (vint _).cells, rfl⟩ hC37 fun p9 w38 hw16 hb38 hl38 hC38 => ?_))
    have ho107 := ho104.no hb38
    have ho108 := ho105.no hb38
    have ho109 := ho106.no hb38
    refine lw_op rfl rfl rfl (ow_move rfl rfl ?_)
    replace h := bind_some h
    obtain ⟨x23, hx23, h⟩ := h
    refine lw_op rfl rfl rfl (ow_call rfl rfl Tryd.call87 (w_spec_l20Rd_pick (hG.mono ((((((((((hl1.trans hl2).trans hl3).trans hl4).trans hl5).trans hl6).trans hl7).trans hl8).trans hl36).trans hl37).trans hl38)) hC38.old (VRep.mono ((((((((((hl1.trans hl2).trans hl3).trans hl4).trans hl5).trans hl6).trans hl7).trans hl8).trans hl36).trans hl37).trans hl38) hxs) ho107 hm3 hx23) fun v23 w39 hv23 => ?_)
    obtain ⟨⟨hv23, ho110⟩, hb39⟩ := hv23
    have hl39 := Le.of_bx (Add g2 (Add g1 M)) hb39 (fun b e => (by rw [show b = g from e]; exact hm3))
    have hC39 := hC38.go hb39 (fun b e => Or.inr e)
    have ho111 := ho108.go hb39 (fun e => hn1 e.symm)
    have ho112 := ho109.go hb39 (fun e => hn2 e.symm)
    obtain rfl := vint_eq hv23
    replace h := bind_some h
    obtain ⟨x24, hx24, h⟩ := h
    refine lw_op rfl rfl rfl (ow_indexSlice (R := RInt) rfl rfl rfl (VRep.mono hl39 hw16) Tryd.underlying84 (Tryd.sizeOf3 _) hx24 fun p10 hp10 => ?_)
    refine lw_op rfl rfl rfl (ow_load (R := RInt) rfl rfl hp10 (Tryd.sizeOf3 _) (Tryd.isAgg3 _) fun v24 hv24 => ?_)
    obtain rfl := vint_eq hv24
    refine lw_op rfl rfl rfl (ow_fieldAddr rfl rfl Tryd.underlying45 rfl (Tryd.sizeOf3 _) ?_)
    refine lw_op0 rfl rfl (ow_store (X := (One g)) (us := [(.int .i64 x24)]) (cs' := #[(.int .i64 x24), (.int .i64 x2.1), (.int .i64 x3.1), (.int .i64 x4.1)]) rfl rfl rfl rfl ho112 (Tryd.sizeOf3 _) rfl rfl rfl rfl hm5 (.inl hg4) rfl hC39 fun w40 ho113 hb40 hl40 hC40 => ?_)
    have ho114 := ho110.go hb40 (fun e => hn2 e)
    have ho115 := ho111.go hb40 (fun e => hn3 e)
    refine lw_nil (ew_blockN ?_)
    refine ew_then (cw_seq (cw_region (lw_op rfl rfl rfl (ow_loadOwnA rfl rfl rfl ho113 (Tryd.isAgg45 _) (Tryd.sizeOf45 _) rfl ?_))))
    have hw17 : VRep RPacket w40 (Add g2 (Add g1 M)) ({ From := x24, To := x2.1, Port := x3.1, Proto := x4.1 } : Packet) (.agg #[(.int .i64 x24), (.int .i64 x2.1), (.int .i64 x3.1), (.int .i64 x4.1)]) := shut_Packet
    refine lw_op0 rfl rfl (ow_store (X := (One g)) (us := [(.int .i64 x24), (.int .i64 x2.1), (.int .i64 x3.1), (.int .i64 x4.1)]) (cs' := #[(.int .i64 x24), (.int .i64 x2.1), (.int .i64 x3.1), (.int .i64 x4.1)]) rfl rfl rfl rfl ho115 (Tryd.sizeOf45 _) rfl rfl rfl rfl hm4 (.inl hg2) rfl hC40 fun w41 ho116 hb41 hl41 hC41 => ?_)
    have ho117 := ho114.go hb41 (fun e => hn1 e)
    have ho118 := ho113.go hb41 (fun e => hn3 e.symm)
    refine lw_nil (ew_then (cw_ret ?_))
    have hw18 : VRep RPacket w41 (Add g2 (Add g1 M)) ({ From := x24, To := x2.1, Port := x3.1, Proto := x4.1 } : Packet) (.agg #[(.int .i64 x24), (.int .i64 x2.1), (.int .i64 x3.1), (.int .i64 x4.1)]) := shut_Packet
    obtain rfl := Option.some.inj h
    exact ew_ret (res1 rfl (.cell rfl (own_loadVarA ho116 (Tryd.isAgg45 _) (Tryd.sizeOf45 _) rfl))) ⟨_, rfl, ⟨(hw18.mono hC41.back), ho117⟩, hC41.bx⟩
   ·
    obtain rfl := hbb7.trans hc7
    refine cw_false rfl ?_
    refine cw_seq (cw_region (lw_op rfl rfl rfl (ow_eqlI rfl rfl rfl fun bb8 hbb8 => ?_)))
    refine lw_op rfl rfl rfl (ow_assign rfl rfl ?_)
    refine lw_nil (ew_then ?_)
    replace h := cond_some h
    rcases h with ⟨hc8, h⟩ | ⟨hc8, h⟩
    ·
     obtain rfl := hbb8.trans hc8
     refine cw_true rfl ?_
     refine cw_region (lw_op rfl rfl rfl (ow_buildSlice (R := RInt) (xs := [(-1), 65536]) (cs := #[(.int .i64 (-1)), (.int .i64 65536)]) (e := 3) rfl rfl (by kernel_rfl) rfl rfl ⟨_, _, rfl, (vint _).cells, _, _, rfl, (vint _).cells, rfl⟩ hC37 fun p11 w42 hw19 hb42 hl42 hC42 => ?_))
     have ho119 := ho104.no hb42
     have ho120 := ho105.no hb42
     have ho121 := ho106.no hb42
     refine lw_op rfl rfl rfl (ow_move rfl rfl ?_)
     replace h := bind_some h
     obtain ⟨x25, hx25, h⟩ := h
     refine lw_op rfl rfl rfl (ow_call rfl rfl Tryd.call87 (w_spec_l20Rd_pick (hG.mono ((((((((((hl1.trans hl2).trans hl3).trans hl4).trans hl5).trans hl6).trans hl7).trans hl8).trans hl36).trans hl37).trans hl42)) hC42.old (VRep.mono ((((((((((hl1.trans hl2).trans hl3).trans hl4).trans hl5).trans hl6).trans hl7).trans hl8).trans hl36).trans hl37).trans hl42) hxs) ho119 hm3 hx25) fun v25 w43 hv25 => ?_)
     obtain ⟨⟨hv25, ho122⟩, hb43⟩ := hv25
     have hl43 := Le.of_bx (Add g2 (Add g1 M)) hb43 (fun b e => (by rw [show b = g from e]; exact hm3))
     have hC43 := hC42.go hb43 (fun b e => Or.inr e)
     have ho123 := ho120.go hb43 (fun e => hn1 e.symm)
     have ho124 := ho121.go hb43 (fun e => hn2 e.symm)
     obtain rfl := vint_eq hv25
     replace h := bind_some h
     obtain ⟨x26, hx26, h⟩ := h
     refine lw_op rfl rfl rfl (ow_indexSlice (R := RInt) rfl rfl rfl (VRep.mono hl43 hw19) Tryd.underlying84 (Tryd.sizeOf3 _) hx26 fun p12 hp12 => ?_)
     refine lw_op rfl rfl rfl (ow_load (R := RInt) rfl rfl hp12 (Tryd.sizeOf3 _) (Tryd.isAgg3 _) fun v26 hv26 => ?_)
     obtain rfl := vint_eq hv26
     refine lw_op rfl rfl rfl (ow_fieldAddr rfl rfl Tryd.underlying45 rfl (Tryd.sizeOf3 _) ?_)
     refine lw_op0 rfl rfl (ow_store (X := (One g)) (us := [(.int .i64 x26)]) (cs' := #[(.int .i64 x1.1), (.int .i64 x26), (.int .i64 x3.1), (.int .i64 x4.1)]) rfl rfl rfl rfl ho124 (Tryd.sizeOf3 _) rfl rfl rfl rfl hm5 (.inl hg4) rfl hC43 fun w44 ho125 hb44 hl44 hC44 => ?_)
     have ho126 := ho122.go hb44 (fun e => hn2 e)
     have ho127 := ho123.go hb44 (fun e => hn3 e)
     refine lw_nil (ew_blockN ?_)
     refine ew_then (cw_seq (cw_region (lw_op rfl rfl rfl (ow_loadOwnA rfl rfl rfl ho125 (Tryd.isAgg45 _) (Tryd.sizeOf45 _) rfl ?_))))
     have hw20 : VRep RPacket w44 (Add g2 (Add g1 M)) ({ From := x1.1, To := x26, Port := x3.1, Proto := x4.1 } : Packet) (.agg #[(.int .i64 x1.1), (.int .i64 x26), (.int .i64 x3.1), (.int .i64 x4.1)]) := shut_Packet
     refine lw_op0 rfl rfl (ow_store (X := (One g)) (us := [(.int .i64 x1.1), (.int .i64 x26), (.int .i64 x3.1), (.int .i64 x4.1)]) (cs' := #[(.int .i64 x1.1), (.int .i64 x26), (.int .i64 x3.1), (.int .i64 x4.1)]) rfl rfl rfl rfl ho127 (Tryd.sizeOf45 _) rfl rfl rfl rfl hm4 (.inl hg2) rfl hC44 fun w45 ho128 hb45 hl45 hC45 => ?_)
     have ho129 := ho126.go hb45 (fun e => hn1 e)
     have ho130 := ho125.go hb45 (fun e => hn3 e.symm)
     refine lw_nil (ew_then (cw_ret ?_))
     have hw21 : VRep RPacket w45 (Add g2 (Add g1 M)) ({ From := x1.1, To := x26, Port := x3.1, Proto := x4.1 } : Packet) (.agg #[(.int .i64 x1.1), (.int .i64 x26), (.int .i64 x3.1), (.int .i64 x4.1)]) := shut_Packet
     obtain rfl := Option.some.inj h
     exact ew_ret (res1 rfl (.cell rfl (own_loadVarA ho128 (Tryd.isAgg45 _) (Tryd.sizeOf45 _) rfl))) ⟨_, rfl, ⟨(hw21.mono hC45.back), ho129⟩, hC45.bx⟩
    ·
     obtain rfl := hbb8.trans hc8
     refine cw_false rfl ?_
     refine cw_seq (cw_region (lw_op rfl rfl rfl (ow_eqlI rfl rfl rfl fun bb9 hbb9 => ?_)))
     refine lw_op rfl rfl rfl (ow_assign rfl rfl ?_)
     refine lw_nil (ew_then ?_)
     replace h := cond_some h
     rcases h with ⟨hc9, h⟩ | ⟨hc9, h⟩
     ·
      obtain rfl := hbb9.trans hc9
      refine cw_true rfl ?_
      refine cw_region (lw_op rfl rfl rfl (ow_buildSlice (R := RInt) (xs := [(-1), 256]) (cs := #[(.int .i64 (-1)), (.int .i64 256)]) (e := 3) rfl rfl (by kernel_rfl) rfl rfl ⟨_, _, rfl, (vint _).cells, _, _, rfl, (vint _).cells, rfl⟩ hC37 fun p13 w46 hw22 hb46 hl46 hC46 => ?_))
      have ho131 := ho104.no hb46
      have ho132 := ho105.no hb46
      have ho133 := ho106.no hb46
      refine lw_op rfl rfl rfl (ow_move rfl rfl ?_)
      replace h := bind_some h
      obtain ⟨x27, hx27, h⟩ := h
      refine lw_op rfl rfl rfl (ow_call rfl rfl Tryd.call87 (w_spec_l20Rd_pick (hG.mono ((((((((((hl1.trans hl2).trans hl3).trans hl4).trans hl5).trans hl6).trans hl7).trans hl8).trans hl36).trans hl37).trans hl46)) hC46.old (VRep.mono ((((((((((hl1.trans hl2).trans hl3).trans hl4).trans hl5).trans hl6).trans hl7).trans hl8).trans hl36).trans hl37).trans hl46) hxs) ho131 hm3 hx27) fun v27 w47 hv27 => ?_)
      obtain ⟨⟨hv27, ho134⟩, hb47⟩ := hv27
      have hl47 := Le.of_bx (Add g2 (Add g1 M)) hb47 (fun b e => (by rw [show b = g from e]; exact hm3))
      have hC47 := hC46.go hb47 (fun b e => Or.inr e)
      have ho135 := ho132.go hb47 (fun e => hn1 e.symm)
      have ho136 := ho133.go hb47 (fun e => hn2 e.symm)
      obtain rfl := vint_eq hv27
      replace h := bind_some h
      obtain ⟨x28, hx28, h⟩ := h
      refine lw_op rfl rfl rfl (ow_indexSlice (R := RInt) rfl rfl rfl (VRep.mono hl47 hw22) Tryd.underlying84 (Tryd.sizeOf3 _) hx28 fun p14 hp14 => ?_)
      refine lw_op rfl rfl rfl (ow_load (R := RInt) rfl rfl hp14 (Tryd.sizeOf3 _) (Tryd.isAgg3 _) fun v28 hv28 => ?_)
      obtain rfl := vint_eq hv28
      refine lw_op rfl rfl rfl (ow_fieldAddr rfl rfl Tryd.underlying45 rfl (Tryd.sizeOf3 _) ?_)
      refine lw_op0 rfl rfl (ow_store (X := (One g)) (us := [(.int .i64 x28)]) (cs' := #[(.int .i64 x1.1), (.int .i64 x2.1), (.int .i64 x28), (.int .i64 x4.1)]) rfl rfl rfl rfl ho136 (Tryd.sizeOf3 _) rfl rfl rfl rfl hm5 (.inl hg4) rfl hC47 fun w48 ho137 hb48 hl48 hC48 => ?_)
      have ho138 := ho134.go hb48 (fun e => hn2 e)
      have ho139 := ho135.go hb48 (fun e => hn3 e)
      refine lw_nil (ew_blockN ?_)
      refine ew_then (cw_seq (cw_region (lw_op rfl rfl rfl (ow_loadOwnA rfl rfl rfl ho137 (Tryd.isAgg45 _) (Tryd.sizeOf45 _) rfl ?_))))
      have hw23 : VRep RPacket w48 (Add g2 (Add g1 M)) ({ From := x1.1, To := x2.1, Port := x28, Proto := x4.1 } : Packet) (.agg #[(.int .i64 x1.1), (.int .i64 x2.1), (.int .i64 x28), (.int .i64 x4.1)]) := shut_Packet
      refine lw_op0 rfl rfl (ow_store (X := (One g)) (us := [(.int .i64 x1.1), (.int .i64 x2.1), (.int .i64 x28), (.int .i64 x4.1)]) (cs' := #[(.int .i64 x1.1), (.int .i64 x2.1), (.int .i64 x28), (.int .i64 x4.1)]) rfl rfl rfl rfl ho139 (Tryd.sizeOf45 _) rfl rfl rfl rfl hm4 (.inl hg2) rfl hC48 fun w49 ho140 hb49 hl49 hC49 => ?_)
      have ho141 := ho138.go hb49 (fun e => hn1 e)
      have ho142 := ho137.go hb49 (fun e => hn3 e.symm)
      refine lw_nil (ew_then (cw_ret ?_))
      have hw24 : VRep RPacket w49 (Add g2 (Add g1 M)) ({ From := x1.1, To := x2.1, Port := x28, Proto := x4.1 } : Packet) (.agg #[(.int .i64 x1.1), (.int .i64 x2.1), (.int .i64 x28), (.int .i64 x4.1)]) := shut_Packet
      obtain rfl := Option.some.inj h
      exact ew_ret (res1 rfl (.cell rfl (own_loadVarA ho140 (Tryd.isAgg45 _) (Tryd.sizeOf45 _) rfl))) ⟨_, rfl, ⟨(hw24.mono hC49.back), ho141⟩, hC49.bx⟩
     ·
      obtain rfl := hbb9.trans hc9
      refine cw_false rfl ?_
      refine cw_region (lw_op rfl rfl rfl (ow_buildSlice (R := RInt) (xs := [(-1), 8]) (cs := #[(.int .i64 (-1)), (.int .i64 8)]) (e := 3) rfl rfl (by kernel_rfl) rfl rfl ⟨_, _, rfl, (vint _).cells, _, _, rfl, (vint _).cells, rfl⟩ hC37 fun p15 w50 hw25 hb50 hl50 hC50 => ?_))
      have ho143 := ho104.no hb50
      have ho144 := ho105.no hb50
      have ho145 := ho106.no hb50
      refine lw_op rfl rfl rfl (ow_move rfl rfl ?_)
      replace h := bind_some h
      obtain ⟨x29, hx29, h⟩ := h
      refine lw_op rfl rfl rfl (ow_call rfl rfl Tryd.call87 (w_spec_l20Rd_pick (hG.mono ((((((((((hl1.trans hl2).trans hl3).trans hl4).trans hl5).trans hl6).trans hl7).trans hl8).trans hl36).trans hl37).trans hl50)) hC50.old (VRep.mono ((((((((((hl1.trans hl2).trans hl3).trans hl4).trans hl5).trans hl6).trans hl7).trans hl8).trans hl36).trans hl37).trans hl50) hxs) ho143 hm3 hx29) fun v29 w51 hv29 => ?_)
      obtain ⟨⟨hv29, ho146⟩, hb51⟩ := hv29
      have hl51 := Le.of_bx (Add g2 (Add g1 M)) hb51 (fun b e => (by rw [show b = g from e]; exact hm3))
      have hC51 := hC50.go hb51 (fun b e => Or.inr e)
      have ho147 := ho144.go hb51 (fun e => hn1 e.symm)
      have ho148 := ho145.go hb51 (fun e => hn2 e.symm)
      obtain rfl := vint_eq hv29
      replace h := bind_some h
      obtain ⟨x30, hx30, h⟩ := h
      refine lw_op rfl rfl rfl (ow_indexSlice (R := RInt) rfl rfl rfl (VRep.mono hl51 hw25) Tryd.underlying84 (Tryd.sizeOf3 _) hx30 fun p16 hp16 => ?_)
      refine lw_op rfl rfl rfl (ow_load (R := RInt) rfl rfl hp16 (Tryd.sizeOf3 _) (Tryd.isAgg3 _) fun v30 hv30 => ?_)
      obtain rfl := vint_eq hv30
      refine lw_op rfl rfl rfl (ow_fieldAddr rfl rfl Tryd.underlying45 rfl (Tryd.sizeOf3 _) ?_)
      refine lw_op0 rfl rfl (ow_store (X := (One g)) (us := [(.int .i64 x30)]) (cs' := #[(.int .i64 x1.1), (.int .i64 x2.1), (.int .i64 x3.1), (.int .i64 x30)]) rfl rfl rfl rfl ho148 (Tryd.sizeOf3 _) rfl rfl rfl rfl hm5 (.inl hg4) rfl hC51 fun w52 ho149 hb52 hl52 hC52 => ?_)
      have ho150 := ho146.go hb52 (fun e => hn2 e)
      have ho151 := ho147.go hb52 (fun e => hn3 e)
      refine lw_nil (ew_blockN ?_)
      refine ew_then (cw_seq (cw_region (lw_op rfl rfl rfl (ow_loadOwnA rfl rfl rfl ho149 (Tryd.isAgg45 _) (Tryd.sizeOf45 _) rfl ?_))))
      have hw26 : VRep RPacket w52 (Add g2 (Add g1 M)) ({ From := x1.1, To := x2.1, Port := x3.1, Proto := x30 } : Packet) (.agg #[(.int .i64 x1.1), (.int .i64 x2.1), (.int .i64 x3.1), (.int .i64 x30)]) := shut_Packet
      refine lw_op0 rfl rfl (ow_store (X := (One g)) (us := [(.int .i64 x1.1), (.int .i64 x2.1), (.int .i64 x3.1), (.int .i64 x30)]) (cs' := #[(.int .i64 x1.1), (.int .i64 x2.1), (.int .i64 x3.1), (.int .i64 x30)]) rfl rfl rfl rfl ho151 (Tryd.sizeOf45 _) rfl rfl rfl rfl hm4 (.inl hg2) rfl hC52 fun w53 ho152 hb53 hl53 hC53 => ?_)
      have ho153 := ho150.go hb53 (fun e => hn1 e)
      have ho154 := ho149.go hb53 (fun e => hn3 e.symm)
      refine lw_nil (ew_then (cw_ret ?_))
      have hw27 : VRep RPacket w53 (Add g2 (Add g1 M)) ({ From := x1.1, To := x2.1, Port := x3.1, Proto := x30 } : Packet) (.agg #[(.int .i64 x1.1), (.int .i64 x2.1), (.int .i64 x3.1), (.int .i64 x30)]) := shut_Packet
      obtain rfl := Option.some.inj h
      exact ew_ret (res1 rfl (.cell rfl (own_loadVarA ho152 (Tryd.isAgg45 _) (Tryd.sizeOf45 _) rfl))) ⟨_, rfl, ⟨(hw27.mono hC53.back), ho153⟩, hC53.bx⟩
  ·
   obtain rfl := hbb6.trans hc6
   refine cw_false rfl ?_
   refine cw_skip (ew_then (cw_seq (cw_region (lw_op rfl rfl rfl (ow_loadOwnA rfl rfl rfl ho103 (Tryd.isAgg45 _) (Tryd.sizeOf45 _) rfl ?_)))))
   have hw28 : VRep RPacket w36 (Add g2 (Add g1 M)) ({ From := x1.1, To := x2.1, Port := x3.1, Proto := x4.1 } : Packet) (.agg #[(.int .i64 x1.1), (.int .i64 x2.1), (.int .i64 x3.1), (.int .i64 x4.1)]) := shut_Packet
   refine lw_op0 rfl rfl (ow_store (X := (One g)) (us := [(.int .i64 x1.1), (.int .i64 x2.1), (.int .i64 x3.1), (.int .i64 x4.1)]) (cs' := #[(.int .i64 x1.1), (.int .i64 x2.1), (.int .i64 x3.1), (.int .i64 x4.1)]) rfl rfl rfl rfl ho102 (Tryd.sizeOf45 _) rfl rfl rfl rfl hm4 (.inl hg2) rfl hC36 fun w54 ho155 hb54 hl54 hC54 => ?_)
   have ho156 := ho101.go hb54 (fun e => hn1 e)
   have ho157 := ho103.go hb54 (fun e => hn3 e.symm)
   refine lw_nil (ew_then (cw_ret ?_))
   have hw29 : VRep RPacket w54 (Add g2 (Add g1 M)) ({ From := x1.1, To := x2.1, Port := x3.1, Proto := x4.1 } : Packet) (.agg #[(.int .i64 x1.1), (.int .i64 x2.1), (.int .i64 x3.1), (.int .i64 x4.1)]) := shut_Packet
   obtain rfl := Option.some.inj h
   exact ew_ret (res1 rfl (.cell rfl (own_loadVarA ho155 (Tryd.isAgg45 _) (Tryd.sizeOf45 _) rfl))) ⟨_, rfl, ⟨(hw29.mono hC54.back), ho156⟩, hC54.bx⟩


end Go.PF
