/- The walks; no condition. -/
import Derived.Test.YtggckckjmhhdhaaDoorProg
import Derived.Test.YtggckckjmhhdhaaDoorWk0
set_option maxRecDepth 100000
namespace Go.PF
open Go Go.RowKit Go.Proofs

theorem w_impl_firstCommon {w : World} {M : Nat → Prop} (_hG : ARep (RArr 4 RShape) w M shapes ⟨0, 0, none⟩) (hO : ∀ b, M b → b < w.heap.size) {v0p : Value} {a_a : List Span} (h0 : VRep (RSlice RSpan) w M a_a v0p) {v1p : Value} {a_b : List Span} (h1 : VRep (RSlice RSpan) w M a_b v1p) {r : Int × Bool} (h : F.impl_firstCommon a_a a_b = some r) :
    Calls Tryd.prog 130 [v0p, v1p].toArray w fun e w' => ∃ v, e = .returned v ∧ (∃ u0 u1, v = .tuple #[u0, u1] ∧ VRep RInt w' M r.1 u0 ∧ VRep RBool w' M r.2 u1) ∧ BX No w w' := by
  have hC : Cx No w M w M := Cx.start hO (fun _ e => e.elim)
  clear _hG
  refine walk (N := 59) Tryd.func130 rfl Tryd.ntmps130 rfl ?_
  refine cw_seq ?_
  refine cw_region ?_
  refine lw_op rfl rfl rfl (ow_assign rfl rfl ?_)
  refine lw_op rfl rfl rfl (ow_assign rfl rfl ?_)
  refine lw_nil ?_
  refine ew_then ?_
  refine cw_seq ?_
  refine cw_seq ?_
  refine cw_region ?_
  refine lw_op rfl rfl rfl (ow_assign rfl rfl ?_)
  refine lw_op rfl rfl rfl (ow_assign rfl rfl ?_)
  refine lw_nil ?_
  refine ew_then ?_
  replace h := bind_some h
  obtain ⟨lr1, hlr1, h⟩ := h
  refine cw_for hlr1 (fun s a w' => ∃ (M' : Nat → Prop), Fits 59 [(0, v0p), (1, v1p), (6, (.int .i64 s.1)), (7, (.int .i64 s.2))] a ∧ Le w M w' M' ∧ Cx No w M w' M') ?_ ?_ ?_
  · intro a ha
    exact ⟨M, ha.sub ⟨rfl, rfl, rfl, rfl, trivial⟩, Le.refl _ _, hC⟩
  · rintro ⟨k1, k2⟩ a w1 sr1 ⟨M1, hF1, hl1, hC1⟩ hb1 hR1
    refine cw_at (E := [(0, v0p), (1, v1p), (6, (.int .i64 k1)), (7, (.int .i64 k2))]) hF1 ?_
    refine cw_seq ?_
    refine cw_seq ?_
    refine cw_region ?_
    refine lw_op rfl rfl rfl (ow_move rfl rfl ?_)
    refine lw_op rfl rfl rfl (ow_move rfl rfl ?_)
    refine lw_op rfl rfl rfl (ow_len rfl rfl (VRep.mono hl1 h0) Tryd.underlying93 rfl ?_)
    refine lw_op rfl rfl rfl (ow_lss rfl rfl rfl fun bb1 hbb1 => ?_)
    refine lw_op rfl rfl rfl (ow_move rfl rfl ?_)
    replace hb1 := cond_some hb1
    rcases hb1 with ⟨hc1, hb1⟩ | ⟨hc1, hb1⟩
    · obtain rfl := hbb1.trans hc1
      refine lw_on rfl rfl rfl rfl rfl rfl (ow_move rfl rfl ?_)
      refine lw_on rfl rfl rfl rfl rfl rfl (ow_move rfl rfl ?_)
      refine lw_on rfl rfl rfl rfl rfl rfl (ow_len rfl rfl (VRep.mono hl1 h1) Tryd.underlying93 rfl ?_)
      refine lw_on rfl rfl rfl rfl rfl rfl (ow_lss rfl rfl rfl fun bb2 hbb2 => ?_)
      refine lw_op rfl rfl rfl (ow_pickT rfl rfl rfl ?_)
      refine lw_nil ?_
      refine ew_then ?_
      replace hb1 := cond_some hb1
      rcases hb1 with ⟨hc2, hb1⟩ | ⟨hc2, hb1⟩
      · obtain rfl := hbb2.trans hc2
        refine cw_true rfl ?_
        refine cw_skip ?_
        refine ew_then ?_
        refine cw_block ?_
        refine cw_seq ?_
        replace hb1 := bind_some hb1
        obtain ⟨x1, hx1, hb1⟩ := hb1
        replace hb1 := bind_some hb1
        obtain ⟨x2, hx2, hb1⟩ := hb1
        refine cw_sub (E' := [(0, v0p), (1, v1p), (6, (.int .i64 k1)), (7, (.int .i64 k2))]) ⟨rfl, rfl, rfl, rfl, trivial⟩ ?_
        refine cw_drawQ 10 [PV (RSlice RSpan) M1 a_a, PEq (.int .i64 k1), PA RSpan M1 x1, PA RInt M1 x1.Lo, PEq (.int .i64 x1.Lo), PV (RSlice RSpan) M1 a_b, PEq (.int .i64 k2), PA RSpan M1 x2, PA RInt M1 x2.Lo, PEq (.int .i64 x2.Lo)] (by kernel_rfl) rfl (by kernel_rfl) ⟨PV.mono _ _ _, PEq.mono _, PA.mono _ _ _, PA.mono _ _ _, PEq.mono _, PV.mono _ _ _, PEq.mono _, PA.mono _ _ _, PA.mono _ _ _, PEq.mono _, trivial⟩ ⟨?_, ?_, ?_, ?_, ?_, ?_, ?_, ?_, ?_, ?_, trivial⟩ ?_
        · intro w2 D hS1 hd1
          have hl2 := Le.no M1 hS1
          have hC2 := hC1.no hS1
          refine dg_sub (E' := [(0, v0p)]) ⟨rfl, trivial⟩ ?_
          refine dg_plain rfl (ow_move rfl rfl ?_)
          exact ⟨BX.refl _ _, (VRep.mono (hl1.trans hl2) h0)⟩
        · intro w3 D hS2 hd2
          have hl3 := Le.no M1 hS2
          have hC3 := hC1.no hS2
          refine dg_sub (E' := [(6, (.int .i64 k1))]) ⟨rfl, trivial⟩ ?_
          refine dg_plain rfl (ow_move rfl rfl ?_)
          exact ⟨BX.refl _ _, rfl⟩
        · intro w4 D hS3 hd3
          have hl4 := Le.no M1 hS3
          have hC4 := hC1.no hS3
          have hd3 : PV (RSlice RSpan) M1 a_a (D 0) w4 ∧ PEq (.int .i64 k1) (D 1) w4 ∧ True := hd3
          obtain ⟨d1, d2, -⟩ := hd3
          obtain ⟨v5, hq1⟩ : ∃ v, (D 0) = v := ⟨_, rfl⟩
          rw [hq1] at d1
          refine dg_sub (E' := [(19, v5), (20, (.int .i64 k1))]) ⟨(congrArg some hq1), (congrArg some d2), trivial⟩ ?_
          refine dg_plain rfl (ow_indexSlice (R := RSpan) rfl rfl rfl d1 Tryd.underlying93 (Tryd.sizeOf92 _) hx1 fun p3 hp3 => ?_)
          exact ⟨BX.refl _ _, ⟨_, rfl, hp3⟩⟩
        · intro w5 D hS4 hd4
          have hl5 := Le.no M1 hS4
          have hC5 := hC1.no hS4
          have hd4 : PA RSpan M1 x1 (D 2) w5 ∧ True := hd4
          obtain ⟨d3, -⟩ := hd4
          obtain ⟨p4, e1, ha1⟩ := d3
          refine dg_sub (E' := [(21, (.pointer (some p4)))]) ⟨(congrArg some e1), trivial⟩ ?_
          refine dg_plain rfl (ow_fieldAddr rfl rfl Tryd.underlying92 rfl (Tryd.sizeOf3 _) ?_)
          exact ⟨BX.refl _ _, ⟨_, rfl, (ha1.fld fld_Span_Lo)⟩⟩
        · intro w6 D hS5 hd5
          have hl6 := Le.no M1 hS5
          have hC6 := hC1.no hS5
          have hd5 : PA RInt M1 x1.Lo (D 3) w6 ∧ True := hd5
          obtain ⟨d4, -⟩ := hd5
          obtain ⟨p5, e2, ha2⟩ := d4
          refine dg_sub (E' := [(22, (.pointer (some p5)))]) ⟨(congrArg some e2), trivial⟩ ?_
          refine dg_plain rfl (ow_load (R := RInt) rfl rfl ha2 (Tryd.sizeOf3 _) (Tryd.isAgg3 _) fun v6 hv6 => ?_)
          obtain rfl := vint_eq hv6
          exact ⟨BX.refl _ _, rfl⟩
        · intro w7 D hS6 hd6
          have hl7 := Le.no M1 hS6
          have hC7 := hC1.no hS6
          refine dg_sub (E' := [(1, v1p)]) ⟨rfl, trivial⟩ ?_
          refine dg_plain rfl (ow_move rfl rfl ?_)
          exact ⟨BX.refl _ _, (VRep.mono (hl1.trans hl7) h1)⟩
        · intro w8 D hS7 hd7
          have hl8 := Le.no M1 hS7
          have hC8 := hC1.no hS7
          refine dg_sub (E' := [(7, (.int .i64 k2))]) ⟨rfl, trivial⟩ ?_
          refine dg_plain rfl (ow_move rfl rfl ?_)
          exact ⟨BX.refl _ _, rfl⟩
        · intro w9 D hS8 hd8
          have hl9 := Le.no M1 hS8
          have hC9 := hC1.no hS8
          have hd8 : PV (RSlice RSpan) M1 a_b (D 5) w9 ∧ PEq (.int .i64 k2) (D 6) w9 ∧ True := hd8
          obtain ⟨d5, d6, -⟩ := hd8
          obtain ⟨v7, hq2⟩ : ∃ v, (D 5) = v := ⟨_, rfl⟩
          rw [hq2] at d5
          refine dg_sub (E' := [(24, v7), (25, (.int .i64 k2))]) ⟨(congrArg some hq2), (congrArg some d6), trivial⟩ ?_
          refine dg_plain rfl (ow_indexSlice (R := RSpan) rfl rfl rfl d5 Tryd.underlying93 (Tryd.sizeOf92 _) hx2 fun p6 hp6 => ?_)
          exact ⟨BX.refl _ _, ⟨_, rfl, hp6⟩⟩
        · intro w10 D hS9 hd9
          have hl10 := Le.no M1 hS9
          have hC10 := hC1.no hS9
          have hd9 : PA RSpan M1 x2 (D 7) w10 ∧ True := hd9
          obtain ⟨d7, -⟩ := hd9
          obtain ⟨p7, e3, ha3⟩ := d7
          refine dg_sub (E' := [(26, (.pointer (some p7)))]) ⟨(congrArg some e3), trivial⟩ ?_
          refine dg_plain rfl (ow_fieldAddr rfl rfl Tryd.underlying92 rfl (Tryd.sizeOf3 _) ?_)
          exact ⟨BX.refl _ _, ⟨_, rfl, (ha3.fld fld_Span_Lo)⟩⟩
        · intro w11 D hS10 hd10
          have hl11 := Le.no M1 hS10
          have hC11 := hC1.no hS10
          have hd10 : PA RInt M1 x2.Lo (D 8) w11 ∧ True := hd10
          obtain ⟨d8, -⟩ := hd10
          obtain ⟨p8, e4, ha4⟩ := d8
          refine dg_sub (E' := [(27, (.pointer (some p8)))]) ⟨(congrArg some e4), trivial⟩ ?_
          refine dg_plain rfl (ow_load (R := RInt) rfl rfl ha4 (Tryd.sizeOf3 _) (Tryd.isAgg3 _) fun v8 hv8 => ?_)
          obtain rfl := vint_eq hv8
          exact ⟨BX.refl _ _, rfl⟩
        · intro w12 D hS11 hd11
          have hl12 := Le.no M1 hS11
          have hC12 := hC1.no hS11
          have hd11 : PV (RSlice RSpan) M1 a_a (D 0) w12 ∧ PEq (.int .i64 k1) (D 1) w12 ∧ PA RSpan M1 x1 (D 2) w12 ∧ PA RInt M1 x1.Lo (D 3) w12 ∧ PEq (.int .i64 x1.Lo) (D 4) w12 ∧ PV (RSlice RSpan) M1 a_b (D 5) w12 ∧ PEq (.int .i64 k2) (D 6) w12 ∧ PA RSpan M1 x2 (D 7) w12 ∧ PA RInt M1 x2.Lo (D 8) w12 ∧ PEq (.int .i64 x2.Lo) (D 9) w12 ∧ True := hd11
          obtain ⟨-, -, -, -, d13, -, -, -, -, d18, -⟩ := hd11
          refine lw_sub (E' := [(23, (.int .i64 x1.Lo)), (28, (.int .i64 x2.Lo)), (0, v0p), (1, v1p), (6, (.int .i64 k1)), (7, (.int .i64 k2))]) ⟨(congrArg some d13), (congrArg some d18), rfl, rfl, rfl, rfl, trivial⟩ ?_
          refine lw_op rfl rfl rfl (ow_max rfl rfl rfl ?_)
          refine lw_op rfl rfl rfl (ow_assign rfl rfl ?_)
          refine lw_nil ?_
          refine ew_then ?_
          refine cw_seq ?_
          refine cw_seq ?_
          refine cw_sub (E' := [(0, v0p), (1, v1p), (6, (.int .i64 k1)), (7, (.int .i64 k2)), (8, (.int .i64 (imax x1.Lo x2.Lo)))]) ⟨rfl, rfl, rfl, rfl, rfl, trivial⟩ ?_
          refine cw_drawQ 12 [PEq (.int .i64 (imax x1.Lo x2.Lo)), PV (RSlice RSpan) M1 a_a, PEq (.int .i64 k1), PA RSpan M1 x1, PA RInt M1 x1.Hi, PEq (.int .i64 x1.Hi), PV (RSlice RSpan) M1 a_b, PEq (.int .i64 k2), PA RSpan M1 x2, PA RInt M1 x2.Hi, PEq (.int .i64 x2.Hi), PEq (.int .i64 (imin x1.Hi x2.Hi))] (by kernel_rfl) rfl (by kernel_rfl) ⟨PEq.mono _, PV.mono _ _ _, PEq.mono _, PA.mono _ _ _, PA.mono _ _ _, PEq.mono _, PV.mono _ _ _, PEq.mono _, PA.mono _ _ _, PA.mono _ _ _, PEq.mono _, PEq.mono _, trivial⟩ ⟨?_, ?_, ?_, ?_, ?_, ?_, ?_, ?_, ?_, ?_, ?_, ?_, trivial⟩ ?_
          · intro w13 D hS12 hd12
            have hl13 := Le.no M1 hS12
            have hC13 := hC12.no hS12
            refine dg_sub (E' := [(8, (.int .i64 (imax x1.Lo x2.Lo)))]) ⟨rfl, trivial⟩ ?_
            refine dg_plain rfl (ow_move rfl rfl ?_)
            exact ⟨BX.refl _ _, rfl⟩
          · intro w14 D hS13 hd13
            have hl14 := Le.no M1 hS13
            have hC14 := hC12.no hS13
            refine dg_sub (E' := [(0, v0p)]) ⟨rfl, trivial⟩ ?_
            refine dg_plain rfl (ow_move rfl rfl ?_)
            exact ⟨BX.refl _ _, (VRep.mono ((hl1.trans hl12).trans hl14) h0)⟩
          · intro w15 D hS14 hd14
            have hl15 := Le.no M1 hS14
            have hC15 := hC12.no hS14
            refine dg_sub (E' := [(6, (.int .i64 k1))]) ⟨rfl, trivial⟩ ?_
            refine dg_plain rfl (ow_move rfl rfl ?_)
            exact ⟨BX.refl _ _, rfl⟩
          · intro w16 D hS15 hd15
            have hl16 := Le.no M1 hS15
            have hC16 := hC12.no hS15
            have hd15 : PV (RSlice RSpan) M1 a_a (D 1) w16 ∧ PEq (.int .i64 k1) (D 2) w16 ∧ True := hd15
            obtain ⟨d19, d20, -⟩ := hd15
            obtain ⟨v11, hq3⟩ : ∃ v, (D 1) = v := ⟨_, rfl⟩
            rw [hq3] at d19
            refine dg_sub (E' := [(31, v11), (32, (.int .i64 k1))]) ⟨(congrArg some hq3), (congrArg some d20), trivial⟩ ?_
            refine dg_plain rfl (ow_indexSlice (R := RSpan) rfl rfl rfl d19 Tryd.underlying93 (Tryd.sizeOf92 _) hx1 fun p11 hp11 => ?_)
            exact ⟨BX.refl _ _, ⟨_, rfl, hp11⟩⟩
          · intro w17 D hS16 hd16
            have hl17 := Le.no M1 hS16
            have hC17 := hC12.no hS16
            have hd16 : PA RSpan M1 x1 (D 3) w17 ∧ True := hd16
            obtain ⟨d21, -⟩ := hd16
            obtain ⟨p12, e5, ha5⟩ := d21
            refine dg_sub (E' := [(33, (.pointer (some p12)))]) ⟨(congrArg some e5), trivial⟩ ?_
            refine dg_plain rfl (ow_fieldAddr rfl rfl Tryd.underlying92 rfl (Tryd.sizeOf3 _) ?_)
            exact ⟨BX.refl _ _, ⟨_, rfl, (ha5.fld fld_Span_Hi)⟩⟩
          · intro w18 D hS17 hd17
            have hl18 := Le.no M1 hS17
            have hC18 := hC12.no hS17
            have hd17 : PA RInt M1 x1.Hi (D 4) w18 ∧ True := hd17
            obtain ⟨d22, -⟩ := hd17
            obtain ⟨p13, e6, ha6⟩ := d22
            refine dg_sub (E' := [(34, (.pointer (some p13)))]) ⟨(congrArg some e6), trivial⟩ ?_
            refine dg_plain rfl (ow_load (R := RInt) rfl rfl ha6 (Tryd.sizeOf3 _) (Tryd.isAgg3 _) fun v12 hv12 => ?_)
            obtain rfl := vint_eq hv12
            exact ⟨BX.refl _ _, rfl⟩
          · intro w19 D hS18 hd18
            have hl19 := Le.no M1 hS18
            have hC19 := hC12.no hS18
            refine dg_sub (E' := [(1, v1p)]) ⟨rfl, trivial⟩ ?_
            refine dg_plain rfl (ow_move rfl rfl ?_)
            exact ⟨BX.refl _ _, (VRep.mono ((hl1.trans hl12).trans hl19) h1)⟩
          · intro w20 D hS19 hd19
            have hl20 := Le.no M1 hS19
            have hC20 := hC12.no hS19
            refine dg_sub (E' := [(7, (.int .i64 k2))]) ⟨rfl, trivial⟩ ?_
            refine dg_plain rfl (ow_move rfl rfl ?_)
            exact ⟨BX.refl _ _, rfl⟩
          · intro w21 D hS20 hd20
            have hl21 := Le.no M1 hS20
            have hC21 := hC12.no hS20
            have hd20 : PV (RSlice RSpan) M1 a_b (D 6) w21 ∧ PEq (.int .i64 k2) (D 7) w21 ∧ True := hd20
            obtain ⟨d23, d24, -⟩ := hd20
            obtain ⟨v13, hq4⟩ : ∃ v, (D 6) = v := ⟨_, rfl⟩
            rw [hq4] at d23
            refine dg_sub (E' := [(36, v13), (37, (.int .i64 k2))]) ⟨(congrArg some hq4), (congrArg some d24), trivial⟩ ?_
            refine dg_plain rfl (ow_indexSlice (R := RSpan) rfl rfl rfl d23 Tryd.underlying93 (Tryd.sizeOf92 _) hx2 fun p14 hp14 => ?_)
            exact ⟨BX.refl _ _, ⟨_, rfl, hp14⟩⟩
          · intro w22 D hS21 hd21
            have hl22 := Le.no M1 hS21
            have hC22 := hC12.no hS21
            have hd21 : PA RSpan M1 x2 (D 8) w22 ∧ True := hd21
            obtain ⟨d25, -⟩ := hd21
            obtain ⟨p15, e7, ha7⟩ := d25
            refine dg_sub (E' := [(38, (.pointer (some p15)))]) ⟨(congrArg some e7), trivial⟩ ?_
            refine dg_plain rfl (ow_fieldAddr rfl rfl Tryd.underlying92 rfl (Tryd.sizeOf3 _) ?_)
            exact ⟨BX.refl _ _, ⟨_, rfl, (ha7.fld fld_Span_Hi)⟩⟩
          · intro w23 D hS22 hd22
            have hl23 := Le.no M1 hS22
            have hC23 := hC12.no hS22
            have hd22 : PA RInt M1 x2.Hi (D 9) w23 ∧ True := hd22
            obtain ⟨d26, -⟩ := hd22
            obtain ⟨p16, e8, ha8⟩ := d26
            refine dg_sub (E' := [(39, (.pointer (some p16)))]) ⟨(congrArg some e8), trivial⟩ ?_
            refine dg_plain rfl (ow_load (R := RInt) rfl rfl ha8 (Tryd.sizeOf3 _) (Tryd.isAgg3 _) fun v14 hv14 => ?_)
            obtain rfl := vint_eq hv14
            exact ⟨BX.refl _ _, rfl⟩
          · intro w24 D hS23 hd23
            have hl24 := Le.no M1 hS23
            have hC24 := hC12.no hS23
            have hd23 : PEq (.int .i64 x1.Hi) (D 5) w24 ∧ PEq (.int .i64 x2.Hi) (D 10) w24 ∧ True := hd23
            obtain ⟨d27, d28, -⟩ := hd23
            refine dg_sub (E' := [(35, (.int .i64 x1.Hi)), (40, (.int .i64 x2.Hi))]) ⟨(congrArg some d27), (congrArg some d28), trivial⟩ ?_
            refine dg_plain rfl (ow_min rfl rfl rfl ?_)
            exact ⟨BX.refl _ _, rfl⟩
          · intro w25 D hS24 hd24
            have hl25 := Le.no M1 hS24
            have hC25 := hC12.no hS24
            have hd24 : PEq (.int .i64 (imax x1.Lo x2.Lo)) (D 0) w25 ∧ PV (RSlice RSpan) M1 a_a (D 1) w25 ∧ PEq (.int .i64 k1) (D 2) w25 ∧ PA RSpan M1 x1 (D 3) w25 ∧ PA RInt M1 x1.Hi (D 4) w25 ∧ PEq (.int .i64 x1.Hi) (D 5) w25 ∧ PV (RSlice RSpan) M1 a_b (D 6) w25 ∧ PEq (.int .i64 k2) (D 7) w25 ∧ PA RSpan M1 x2 (D 8) w25 ∧ PA RInt M1 x2.Hi (D 9) w25 ∧ PEq (.int .i64 x2.Hi) (D 10) w25 ∧ PEq (.int .i64 (imin x1.Hi x2.Hi)) (D 11) w25 ∧ True := hd24
            obtain ⟨d29, -, -, -, -, -, -, -, -, -, -, d40, -⟩ := hd24
            refine lw_sub (E' := [(30, (.int .i64 (imax x1.Lo x2.Lo))), (41, (.int .i64 (imin x1.Hi x2.Hi))), (0, v0p), (1, v1p), (6, (.int .i64 k1)), (7, (.int .i64 k2)), (8, (.int .i64 (imax x1.Lo x2.Lo)))]) ⟨(congrArg some d29), (congrArg some d40), rfl, rfl, rfl, rfl, rfl, trivial⟩ ?_
            refine lw_op rfl rfl rfl (ow_leq rfl rfl rfl fun bb3 hbb3 => ?_)
            refine lw_nil ?_
            refine ew_then ?_
            replace hb1 := cond_some hb1
            rcases hb1 with ⟨hc3, hb1⟩ | ⟨hc3, hb1⟩
            · obtain rfl := hbb3.trans hc3
              refine cw_true rfl ?_
              refine cw_seq ?_
              refine cw_region ?_
              refine lw_op rfl rfl rfl (ow_move rfl rfl ?_)
              refine lw_op rfl rfl rfl (ow_assign rfl rfl ?_)
              refine lw_op rfl rfl rfl (ow_assign rfl rfl ?_)
              refine lw_nil ?_
              refine ew_then ?_
              refine cw_ret ?_
              refine ew_thenR ?_
              refine ew_blockR ?_
              refine ew_thenR ?_
              refine ew_blockR ?_
              refine ew_brkR ?_
              refine ew_thenR ?_
              have e9 := hR1 _ (Option.some.inj hb1).symm
              subst e9
              obtain rfl := Option.some.inj h
              exact ew_ret (res2 rfl (.tmp rfl) (.tmp rfl)) ⟨_, rfl, ⟨_, _, rfl, ((vint _)), ((vbool _))⟩, hC25.bx⟩
            · obtain rfl := hbb3.trans hc3
              refine cw_false rfl ?_
              refine cw_skip ?_
              refine ew_then ?_
              refine cw_seq ?_
              refine cw_sub (E' := [(0, v0p), (1, v1p), (6, (.int .i64 k1)), (7, (.int .i64 k2))]) ⟨rfl, rfl, rfl, rfl, trivial⟩ ?_
              refine cw_drawQ 10 [PV (RSlice RSpan) M1 a_a, PEq (.int .i64 k1), PA RSpan M1 x1, PA RInt M1 x1.Hi, PEq (.int .i64 x1.Hi), PV (RSlice RSpan) M1 a_b, PEq (.int .i64 k2), PA RSpan M1 x2, PA RInt M1 x2.Hi, PEq (.int .i64 x2.Hi)] (by kernel_rfl) rfl (by kernel_rfl) ⟨PV.mono _ _ _, PEq.mono _, PA.mono _ _ _, PA.mono _ _ _, PEq.mono _, PV.mono _ _ _, PEq.mono _, PA.mono _ _ _, PA.mono _ _ _, PEq.mono _, trivial⟩ ⟨?_, ?_, ?_, ?_, ?_, ?_, ?_, ?_, ?_, ?_, trivial⟩ ?_
              · intro w26 D hS25 hd25
                have hl26 := Le.no M1 hS25
                have hC26 := hC25.no hS25
                refine dg_sub (E' := [(0, v0p)]) ⟨rfl, trivial⟩ ?_
                refine dg_plain rfl (ow_move rfl rfl ?_)
                exact ⟨BX.refl _ _, (VRep.mono (((hl1.trans hl12).trans hl25).trans hl26) h0)⟩
              · intro w27 D hS26 hd26
                have hl27 := Le.no M1 hS26
                have hC27 := hC25.no hS26
                refine dg_sub (E' := [(6, (.int .i64 k1))]) ⟨rfl, trivial⟩ ?_
                refine dg_plain rfl (ow_move rfl rfl ?_)
                exact ⟨BX.refl _ _, rfl⟩
              · intro w28 D hS27 hd27
                have hl28 := Le.no M1 hS27
                have hC28 := hC25.no hS27
                have hd27 : PV (RSlice RSpan) M1 a_a (D 0) w28 ∧ PEq (.int .i64 k1) (D 1) w28 ∧ True := hd27
                obtain ⟨d41, d42, -⟩ := hd27
                obtain ⟨v17, hq5⟩ : ∃ v, (D 0) = v := ⟨_, rfl⟩
                rw [hq5] at d41
                refine dg_sub (E' := [(44, v17), (45, (.int .i64 k1))]) ⟨(congrArg some hq5), (congrArg some d42), trivial⟩ ?_
                refine dg_plain rfl (ow_indexSlice (R := RSpan) rfl rfl rfl d41 Tryd.underlying93 (Tryd.sizeOf92 _) hx1 fun p19 hp19 => ?_)
                exact ⟨BX.refl _ _, ⟨_, rfl, hp19⟩⟩
              · intro w29 D hS28 hd28
                have hl29 := Le.no M1 hS28
                have hC29 := hC25.no hS28
                have hd28 : PA RSpan M1 x1 (D 2) w29 ∧ True := hd28
                obtain ⟨d43, -⟩ := hd28
                obtain ⟨p20, e10, ha9⟩ := d43
                refine dg_sub (E' := [(46, (.pointer (some p20)))]) ⟨(congrArg some e10), trivial⟩ ?_
                refine dg_plain rfl (ow_fieldAddr rfl rfl Tryd.underlying92 rfl (Tryd.sizeOf3 _) ?_)
                exact ⟨BX.refl _ _, ⟨_, rfl, (ha9.fld fld_Span_Hi)⟩⟩
              · intro w30 D hS29 hd29
                have hl30 := Le.no M1 hS29
                have hC30 := hC25.no hS29
                have hd29 : PA RInt M1 x1.Hi (D 3) w30 ∧ True := hd29
                obtain ⟨d44, -⟩ := hd29
                obtain ⟨p21, e11, ha10⟩ := d44
                refine dg_sub (E' := [(47, (.pointer (some p21)))]) ⟨(congrArg some e11), trivial⟩ ?_
                refine dg_plain rfl (ow_load (R := RInt) rfl rfl ha10 (Tryd.sizeOf3 _) (Tryd.isAgg3 _) fun v18 hv18 => ?_)
                obtain rfl := vint_eq hv18
                exact ⟨BX.refl _ _, rfl⟩
              · intro w31 D hS30 hd30
                have hl31 := Le.no M1 hS30
                have hC31 := hC25.no hS30
                refine dg_sub (E' := [(1, v1p)]) ⟨rfl, trivial⟩ ?_
                refine dg_plain rfl (ow_move rfl rfl ?_)
                exact ⟨BX.refl _ _, (VRep.mono (((hl1.trans hl12).trans hl25).trans hl31) h1)⟩
              · intro w32 D hS31 hd31
                have hl32 := Le.no M1 hS31
                have hC32 := hC25.no hS31
                refine dg_sub (E' := [(7, (.int .i64 k2))]) ⟨rfl, trivial⟩ ?_
                refine dg_plain rfl (ow_move rfl rfl ?_)
                exact ⟨BX.refl _ _, rfl⟩
              · intro w33 D hS32 hd32
                have hl33 := Le.no M1 hS32
                have hC33 := hC25.no hS32
                have hd32 : PV (RSlice RSpan) M1 a_b (D 5) w33 ∧ PEq (.int .i64 k2) (D 6) w33 ∧ True := hd32
                obtain ⟨d45, d46, -⟩ := hd32
                obtain ⟨v19, hq6⟩ : ∃ v, (D 5) = v := ⟨_, rfl⟩
                rw [hq6] at d45
                refine dg_sub (E' := [(49, v19), (50, (.int .i64 k2))]) ⟨(congrArg some hq6), (congrArg some d46), trivial⟩ ?_
                refine dg_plain rfl (ow_indexSlice (R := RSpan) rfl rfl rfl d45 Tryd.underlying93 (Tryd.sizeOf92 _) hx2 fun p22 hp22 => ?_)
                exact ⟨BX.refl _ _, ⟨_, rfl, hp22⟩⟩
              · intro w34 D hS33 hd33
                have hl34 := Le.no M1 hS33
                have hC34 := hC25.no hS33
                have hd33 : PA RSpan M1 x2 (D 7) w34 ∧ True := hd33
                obtain ⟨d47, -⟩ := hd33
                obtain ⟨p23, e12, ha11⟩ := d47
                refine dg_sub (E' := [(51, (.pointer (some p23)))]) ⟨(congrArg some e12), trivial⟩ ?_
                refine dg_plain rfl (ow_fieldAddr rfl rfl Tryd.underlying92 rfl (Tryd.sizeOf3 _) ?_)
                exact ⟨BX.refl _ _, ⟨_, rfl, (ha11.fld fld_Span_Hi)⟩⟩
              · intro w35 D hS34 hd34
                have hl35 := Le.no M1 hS34
                have hC35 := hC25.no hS34
                have hd34 : PA RInt M1 x2.Hi (D 8) w35 ∧ True := hd34
                obtain ⟨d48, -⟩ := hd34
                obtain ⟨p24, e13, ha12⟩ := d48
                refine dg_sub (E' := [(52, (.pointer (some p24)))]) ⟨(congrArg some e13), trivial⟩ ?_
                refine dg_plain rfl (ow_load (R := RInt) rfl rfl ha12 (Tryd.sizeOf3 _) (Tryd.isAgg3 _) fun v20 hv20 => ?_)
                obtain rfl := vint_eq hv20
                exact ⟨BX.refl _ _, rfl⟩
              · intro w36 D hS35 hd35
                have hl36 := Le.no M1 hS35
                have hC36 := hC25.no hS35
                have hd35 : PV (RSlice RSpan) M1 a_a (D 0) w36 ∧ PEq (.int .i64 k1) (D 1) w36 ∧ PA RSpan M1 x1 (D 2) w36 ∧ PA RInt M1 x1.Hi (D 3) w36 ∧ PEq (.int .i64 x1.Hi) (D 4) w36 ∧ PV (RSlice RSpan) M1 a_b (D 5) w36 ∧ PEq (.int .i64 k2) (D 6) w36 ∧ PA RSpan M1 x2 (D 7) w36 ∧ PA RInt M1 x2.Hi (D 8) w36 ∧ PEq (.int .i64 x2.Hi) (D 9) w36 ∧ True := hd35
                obtain ⟨-, -, -, -, d53, -, -, -, -, d58, -⟩ := hd35
                refine lw_sub (E' := [(48, (.int .i64 x1.Hi)), (53, (.int .i64 x2.Hi)), (0, v0p), (1, v1p), (6, (.int .i64 k1)), (7, (.int .i64 k2))]) ⟨(congrArg some d53), (congrArg some d58), rfl, rfl, rfl, rfl, trivial⟩ ?_
                refine lw_op rfl rfl rfl (ow_lss rfl rfl rfl fun bb4 hbb4 => ?_)
                refine lw_nil ?_
                refine ew_then ?_
                replace hb1 := cond_some hb1
                rcases hb1 with ⟨hc4, hb1⟩ | ⟨hc4, hb1⟩
                · obtain rfl := hbb4.trans hc4
                  refine cw_true rfl ?_
                  refine cw_region ?_
                  refine lw_op rfl rfl rfl (ow_move rfl rfl ?_)
                  refine lw_op rfl rfl rfl (ow_add rfl rfl rfl ?_)
                  refine lw_op rfl rfl rfl (ow_assign rfl rfl ?_)
                  refine lw_nil ?_
                  refine ew_blockN ?_
                  refine ew_nxt ((W (k1 + 1)), k2) hb1 fun a ha => ⟨M1, ?_, (((hl1.trans hl12).trans hl25).trans hl36), hC36⟩
                  exact ha.sub ⟨rfl, rfl, rfl, rfl, trivial⟩
                · obtain rfl := hbb4.trans hc4
                  refine cw_false rfl ?_
                  refine cw_region ?_
                  refine lw_op rfl rfl rfl (ow_move rfl rfl ?_)
                  refine lw_op rfl rfl rfl (ow_add rfl rfl rfl ?_)
                  refine lw_op rfl rfl rfl (ow_assign rfl rfl ?_)
                  refine lw_nil ?_
                  refine ew_blockN ?_
                  refine ew_nxt (k1, (W (k2 + 1))) hb1 fun a ha => ⟨M1, ?_, (((hl1.trans hl12).trans hl25).trans hl36), hC36⟩
                  exact ha.sub ⟨rfl, rfl, rfl, rfl, trivial⟩
      · obtain rfl := hbb2.trans hc2
        refine cw_false rfl ?_
        refine cw_exit ?_
        refine ew_thenX ?_
        refine ew_thenX ?_
        refine ew_blockX ?_
        refine ew_brk (k1, k2) hb1 fun a ha => ⟨M1, ?_, hl1, hC1⟩
        exact ha.sub ⟨rfl, rfl, rfl, rfl, trivial⟩
    · obtain rfl := hbb1.trans hc1
      refine lw_off rfl rfl rfl rfl rfl rfl ?_
      refine lw_off rfl rfl rfl rfl rfl rfl ?_
      refine lw_off rfl rfl rfl rfl rfl rfl ?_
      refine lw_off rfl rfl rfl rfl rfl rfl ?_
      refine lw_op rfl rfl rfl (ow_pickF rfl rfl rfl ?_)
      refine lw_nil ?_
      refine ew_then ?_
      refine cw_false rfl ?_
      refine cw_exit ?_
      refine ew_thenX ?_
      refine ew_thenX ?_
      refine ew_blockX ?_
      refine ew_brk (k1, k2) hb1 fun a ha => ⟨M1, ?_, hl1, hC1⟩
      exact ha.sub ⟨rfl, rfl, rfl, rfl, trivial⟩
  · rintro ⟨k3, k4⟩ a w37 hlr2 ⟨M2, hF2, hl37, hC37⟩
    subst hlr2
    refine ew_at (E := [(0, v0p), (1, v1p), (6, (.int .i64 k3)), (7, (.int .i64 k4))]) hF2 ?_
    refine ew_then ?_
    refine cw_seq ?_
    refine cw_region ?_
    refine lw_op rfl rfl rfl (ow_assign rfl rfl ?_)
    refine lw_op rfl rfl rfl (ow_assign rfl rfl ?_)
    refine lw_nil ?_
    refine ew_then ?_
    refine cw_ret ?_
    obtain rfl := Option.some.inj h
    exact ew_ret (res2 rfl (.tmp rfl) (.tmp rfl)) ⟨_, rfl, ⟨_, _, rfl, ((vint _)), ((vbool _))⟩, hC37.bx⟩

theorem w_impl_packetOf {w : World} {M : Nat → Prop} (_hG : ARep (RArr 4 RShape) w M shapes ⟨0, 0, none⟩) (hO : ∀ b, M b → b < w.heap.size) {v0p : Value} {a_fields : List Int} (h0 : VRep (RArr 4 RInt) w M a_fields v0p) {r : Packet} (h : F.impl_packetOf a_fields = some r) :
    Calls Tryd.prog 131 [v0p].toArray w fun e w' => ∃ v, e = .returned v ∧ VRep RPacket w' M r v ∧ BX No w w' := by
  have hC : Cx No w M w M := Cx.start hO (fun _ e => e.elim)
  clear _hG
  refine walk (N := 12) Tryd.func131 rfl Tryd.ntmps131 rfl ?_
  refine cw_seq ?_
  refine cw_region ?_
  refine lw_op rfl rfl rfl (ow_box (R := (RArr 4 RInt)) rfl rfl h0 hC fun p1 w1 hp1 hb1 hl1 hC1 => ?_)
  refine lw_op rfl rfl rfl (ow_alloc rfl (Tryd.zeroValue38 _) hC1 fun g1 w2 hg1 hg2 ho1 hb2 hl2 hC2 => ?_)
  have hm1 : (Add g1 M) g1 := .inl rfl
  refine lw_nil ?_
  refine ew_then ?_
  refine cw_seq ?_
  refine cw_region ?_
  replace h := bind_some h
  obtain ⟨x1, hx1, h⟩ := h
  refine lw_op rfl rfl rfl (ow_indexArr (R := RInt) rfl rfl rfl (ARep.mono hl2 hp1) Tryd.underlying143 (Tryd.sizeOf3 _) hx1 fun p2 hp2 => ?_)
  refine lw_op rfl rfl rfl (ow_load (R := RInt) rfl rfl hp2 (Tryd.sizeOf3 _) (Tryd.isAgg3 _) fun v1 hv1 => ?_)
  obtain rfl := vint_eq hv1
  replace h := bind_some h
  obtain ⟨x2, hx2, h⟩ := h
  refine lw_op rfl rfl rfl (ow_indexArr (R := RInt) rfl rfl rfl (ARep.mono hl2 hp1) Tryd.underlying143 (Tryd.sizeOf3 _) hx2 fun p3 hp3 => ?_)
  refine lw_op rfl rfl rfl (ow_load (R := RInt) rfl rfl hp3 (Tryd.sizeOf3 _) (Tryd.isAgg3 _) fun v2 hv2 => ?_)
  obtain rfl := vint_eq hv2
  replace h := bind_some h
  obtain ⟨x3, hx3, h⟩ := h
  refine lw_op rfl rfl rfl (ow_indexArr (R := RInt) rfl rfl rfl (ARep.mono hl2 hp1) Tryd.underlying143 (Tryd.sizeOf3 _) hx3 fun p4 hp4 => ?_)
  refine lw_op rfl rfl rfl (ow_load (R := RInt) rfl rfl hp4 (Tryd.sizeOf3 _) (Tryd.isAgg3 _) fun v3 hv3 => ?_)
  obtain rfl := vint_eq hv3
  replace h := bind_some h
  obtain ⟨x4, hx4, h⟩ := h
  refine lw_op rfl rfl rfl (ow_indexArr (R := RInt) rfl rfl rfl (ARep.mono hl2 hp1) Tryd.underlying143 (Tryd.sizeOf3 _) hx4 fun p5 hp5 => ?_)
  refine lw_op rfl rfl rfl (ow_load (R := RInt) rfl rfl hp5 (Tryd.sizeOf3 _) (Tryd.isAgg3 _) fun v4 hv4 => ?_)
  obtain rfl := vint_eq hv4
  refine lw_op rfl rfl rfl (ow_build (v := .agg #[(.int .i64 x1), (.int .i64 x2), (.int .i64 x3), (.int .i64 x4)]) rfl rfl (by kernel_rfl) ?_)
  have hw1 : VRep RPacket w2 (Add g1 M) ({ From := x1, To := x2, Port := x3, Proto := x4 } : Packet) (.agg #[(.int .i64 x1), (.int .i64 x2), (.int .i64 x3), (.int .i64 x4)]) := shut_Packet
  refine lw_op0 rfl rfl (ow_store (us := [(.int .i64 x1), (.int .i64 x2), (.int .i64 x3), (.int .i64 x4)]) (cs' := #[(.int .i64 x1), (.int .i64 x2), (.int .i64 x3), (.int .i64 x4)]) rfl rfl rfl rfl ho1 (Tryd.sizeOf38 _) rfl rfl rfl rfl hm1 (.inl hg2) rfl hC2 fun w3 ho2 hb3 hl3 hC3 => ?_)
  refine lw_nil ?_
  refine ew_then ?_
  refine cw_ret ?_
  have hw2 : VRep RPacket w3 (Add g1 M) ({ From := x1, To := x2, Port := x3, Proto := x4 } : Packet) (.agg #[(.int .i64 x1), (.int .i64 x2), (.int .i64 x3), (.int .i64 x4)]) := shut_Packet
  obtain rfl := Option.some.inj h
  exact ew_ret (res1 rfl (.cell rfl (own_loadVarA ho2 (Tryd.isAgg38 _) (Tryd.sizeOf38 _) rfl))) ⟨_, rfl, (hw2.mono hC3.back), hC3.bx⟩

theorem w_impl_sides_firstCommon {w : World} {M : Nat → Prop} (hG : ARep (RArr 4 RShape) w M shapes ⟨0, 0, none⟩) (hO : ∀ b, M b → b < w.heap.size) {v0p : Value} {a_s : List (List Span)} (h0 : VRep (RArr 4 (RSlice RSpan)) w M a_s v0p) {v1p : Value} {a_other : List (List Span)} (h1 : VRep (RArr 4 (RSlice RSpan)) w M a_other v1p) {r : Packet × Bool} (h : F.impl_sides_firstCommon a_s a_other = some r) :
    Calls Tryd.prog 104 [v0p, v1p].toArray w fun e w' => ∃ v, e = .returned v ∧ (∃ u0 u1, v = .tuple #[u0, u1] ∧ VRep RPacket w' M r.1 u0 ∧ VRep RBool w' M r.2 u1) ∧ BX No w w' := by
  have hC : Cx No w M w M := Cx.start hO (fun _ e => e.elim)
  refine walk (N := 32) Tryd.func104 rfl Tryd.ntmps104 rfl ?_
  refine cw_seq ?_
  refine cw_region ?_
  refine lw_op rfl rfl rfl (ow_box (R := (RArr 4 (RSlice RSpan))) rfl rfl h0 hC fun p1 w1 hp1 hb1 hl1 hC1 => ?_)
  refine lw_op rfl rfl rfl (ow_box (R := (RArr 4 (RSlice RSpan))) rfl rfl (VRep.mono hl1 h1) hC1 fun p2 w2 hp2 hb2 hl2 hC2 => ?_)
  refine lw_op rfl rfl rfl (ow_alloc rfl (Tryd.zeroValue38 _) hC2 fun g1 w3 hg1 hg2 ho1 hb3 hl3 hC3 => ?_)
  have hm1 : (Add g1 M) g1 := .inl rfl
  refine lw_op rfl rfl rfl (ow_assign rfl rfl ?_)
  refine lw_nil ?_
  refine ew_then ?_
  refine cw_seq ?_
  refine cw_region ?_
  refine lw_op rfl rfl rfl (ow_alloc rfl (Tryd.zeroValue143 _) hC3 fun g2 w4 hg3 hg4 ho2 hb4 hl4 hC4 => ?_)
  have hn1 := Nat.ne_of_lt (Nat.lt_of_lt_of_le ho1.lt hg3)
  have ho3 := ho1.no hb4
  have hm2 : (Add g2 (Add g1 M)) g1 := .inr hm1
  have hm3 : (Add g2 (Add g1 M)) g2 := .inl rfl
  have ho4 : OwnA (RArr 4 RInt) w4 (Add g2 (Add g1 M)) g2 143 [0, 0, 0, 0] := OwnA.of ho2 ⟨rfl, ⟨_, _, rfl, (vint _).cells, _, _, rfl, (vint _).cells, _, _, rfl, (vint _).cells, _, _, rfl, (vint _).cells, rfl⟩⟩
  refine lw_nil ?_
  refine ew_then ?_
  refine cw_seq ?_
  refine cw_seq ?_
  refine cw_region ?_
  refine lw_op rfl rfl rfl (ow_move rfl rfl ?_)
  refine lw_nil ?_
  refine ew_then ?_
  replace h := bind_some h
  obtain ⟨lr1, hlr1, h⟩ := h
  refine cw_for hlr1 (fun s a w' => ∃ (M' : Nat → Prop), Fits 32 [(2, (.pointer (some p1))), (3, (.pointer (some p2))), (4, (.pointer (some ⟨g1, 0, none⟩))), (6, (.pointer (some ⟨g2, 0, none⟩))), (10, (.int .i64 s.1))] a ∧ Le w4 (Add g2 (Add g1 M)) w' M' ∧ Cx No w M w' M' ∧ Own w' g1 38 #[(.int .i64 s.2.1), (.int .i64 s.2.2.1), (.int .i64 s.2.2.2.1), (.int .i64 s.2.2.2.2.1)] ∧ M' g1 ∧ OwnA (RArr 4 RInt) w' M' g2 143 s.2.2.2.2.2 ∧ M' g2) ?_ ?_ ?_
  · intro a ha
    exact ⟨(Add g2 (Add g1 M)), ha.sub ⟨rfl, rfl, rfl, rfl, rfl, trivial⟩, Le.refl _ _, hC4, ho3, hm2, ho4, hm3⟩
  · rintro ⟨k1, k2, k3, k4, k5, y1⟩ a w5 sr1 ⟨M1, hF1, hl5, hC5, ho5, hm4, ho6, hm5⟩ hb5 hR1
    refine cw_at (E := [(2, (.pointer (some p1))), (3, (.pointer (some p2))), (4, (.pointer (some ⟨g1, 0, none⟩))), (6, (.pointer (some ⟨g2, 0, none⟩))), (10, (.int .i64 k1))]) hF1 ?_
    refine cw_seq ?_
    refine cw_region ?_
    refine lw_op rfl rfl rfl (ow_lss rfl rfl rfl fun bb1 hbb1 => ?_)
    refine lw_nil ?_
    refine ew_then ?_
    refine cw_seq ?_
    replace hb5 := cond_some hb5
    rcases hb5 with ⟨hc1, hb5⟩ | ⟨hc1, hb5⟩
    · obtain rfl := hbb1.trans hc1
      refine cw_true rfl ?_
      refine cw_skip ?_
      refine ew_then ?_
      refine cw_seq ?_
      refine cw_block ?_
      refine cw_seq ?_
      refine cw_region ?_
      refine lw_op rfl rfl rfl (ow_move rfl rfl ?_)
      refine lw_op rfl rfl rfl (ow_assign rfl rfl ?_)
      refine lw_nil ?_
      refine ew_then ?_
      refine cw_seq ?_
      replace hb5 := bind_some hb5
      obtain ⟨x1, hx1, hb5⟩ := hb5
      replace hb5 := bind_some hb5
      obtain ⟨x2, hx2, hb5⟩ := hb5
      replace hb5 := bind_some hb5
      obtain ⟨x3, hx3, hb5⟩ := hb5
      refine cw_sub (E' := [(2, (.pointer (some p1))), (3, (.pointer (some p2))), (4, (.pointer (some ⟨g1, 0, none⟩))), (6, (.pointer (some ⟨g2, 0, none⟩))), (7, (.int .i64 k1)), (10, (.int .i64 k1))]) ⟨rfl, rfl, rfl, rfl, rfl, rfl, trivial⟩ ?_
      refine cw_drawQ 11 [PEq (.int .i64 k1), PA (RSlice RSpan) M1 x1, PV (RSlice RSpan) M1 x1, PEq (.int .i64 k1), PA (RSlice RSpan) M1 x2, PV (RSlice RSpan) M1 x2, PT2 (PEq (.int .i64 x3.1)) (PEq (.bool x3.2)), PT2 (PEq (.int .i64 x3.1)) (PEq (.bool x3.2)), PEq (.int .i64 x3.1), PEq (.bool x3.2), PEq (.int .i64 x3.1)] (by kernel_rfl) rfl (by kernel_rfl) ⟨PEq.mono _, PA.mono _ _ _, PV.mono _ _ _, PEq.mono _, PA.mono _ _ _, PV.mono _ _ _, (PT2.mono (PEq.mono _) (PEq.mono _)), (PT2.mono (PEq.mono _) (PEq.mono _)), PEq.mono _, PEq.mono _, PEq.mono _, trivial⟩ ⟨?_, ?_, ?_, ?_, ?_, ?_, ?_, ?_, ?_, ?_, ?_, trivial⟩ ?_
      · intro w7 D hS1 hd1
        have hl7 := Le.no M1 hS1
        have hC7 := hC5.no hS1
        have ho9 := ho5.no hS1
        have ho10 := ho6.no hS1 hl7
        refine dg_sub (E' := [(7, (.int .i64 k1))]) ⟨rfl, trivial⟩ ?_
        refine dg_plain rfl (ow_move rfl rfl ?_)
        exact ⟨BX.refl _ _, rfl⟩
      · intro w8 D hS2 hd2
        have hl8 := Le.no M1 hS2
        have hC8 := hC5.no hS2
        have ho11 := ho5.no hS2
        have ho12 := ho6.no hS2 hl8
        have hd2 : PEq (.int .i64 k1) (D 0) w8 ∧ True := hd2
        obtain ⟨d1, -⟩ := hd2
        refine dg_sub (E' := [(14, (.int .i64 k1)), (2, (.pointer (some p1)))]) ⟨(congrArg some d1), rfl, trivial⟩ ?_
        refine dg_plain rfl (ow_indexArr (R := (RSlice RSpan)) rfl rfl rfl (ARep.mono ((((hl2.trans hl3).trans hl4).trans hl5).trans hl8) hp1) Tryd.underlying95 (Tryd.sizeOf93 _) hx1 fun p5 hp5 => ?_)
        exact ⟨BX.refl _ _, ⟨_, rfl, hp5⟩⟩
      · intro w9 D hS3 hd3
        have hl9 := Le.no M1 hS3
        have hC9 := hC5.no hS3
        have ho13 := ho5.no hS3
        have ho14 := ho6.no hS3 hl9
        have hd3 : PA (RSlice RSpan) M1 x1 (D 1) w9 ∧ True := hd3
        obtain ⟨d2, -⟩ := hd3
        obtain ⟨p6, e1, ha1⟩ := d2
        refine dg_sub (E' := [(15, (.pointer (some p6)))]) ⟨(congrArg some e1), trivial⟩ ?_
        refine dg_plain rfl (ow_load (R := (RSlice RSpan)) rfl rfl ha1 (Tryd.sizeOf93 _) (Tryd.isAgg93 _) fun v12 hv12 => ?_)
        exact ⟨BX.refl _ _, hv12⟩
      · intro w10 D hS4 hd4
        have hl10 := Le.no M1 hS4
        have hC10 := hC5.no hS4
        have ho15 := ho5.no hS4
        have ho16 := ho6.no hS4 hl10
        refine dg_sub (E' := [(7, (.int .i64 k1))]) ⟨rfl, trivial⟩ ?_
        refine dg_plain rfl (ow_move rfl rfl ?_)
        exact ⟨BX.refl _ _, rfl⟩
      · intro w11 D hS5 hd5
        have hl11 := Le.no M1 hS5
        have hC11 := hC5.no hS5
        have ho17 := ho5.no hS5
        have ho18 := ho6.no hS5 hl11
        have hd5 : PEq (.int .i64 k1) (D 3) w11 ∧ True := hd5
        obtain ⟨d3, -⟩ := hd5
        refine dg_sub (E' := [(17, (.int .i64 k1)), (3, (.pointer (some p2)))]) ⟨(congrArg some d3), rfl, trivial⟩ ?_
        refine dg_plain rfl (ow_indexArr (R := (RSlice RSpan)) rfl rfl rfl (ARep.mono (((hl3.trans hl4).trans hl5).trans hl11) hp2) Tryd.underlying95 (Tryd.sizeOf93 _) hx2 fun p7 hp7 => ?_)
        exact ⟨BX.refl _ _, ⟨_, rfl, hp7⟩⟩
      · intro w12 D hS6 hd6
        have hl12 := Le.no M1 hS6
        have hC12 := hC5.no hS6
        have ho19 := ho5.no hS6
        have ho20 := ho6.no hS6 hl12
        have hd6 : PA (RSlice RSpan) M1 x2 (D 4) w12 ∧ True := hd6
        obtain ⟨d4, -⟩ := hd6
        obtain ⟨p8, e2, ha2⟩ := d4
        refine dg_sub (E' := [(18, (.pointer (some p8)))]) ⟨(congrArg some e2), trivial⟩ ?_
        refine dg_plain rfl (ow_load (R := (RSlice RSpan)) rfl rfl ha2 (Tryd.sizeOf93 _) (Tryd.isAgg93 _) fun v13 hv13 => ?_)
        exact ⟨BX.refl _ _, hv13⟩
      · intro w13 D hS7 hd7
        have hl13 := Le.no M1 hS7
        have hC13 := hC5.no hS7
        have ho21 := ho5.no hS7
        have ho22 := ho6.no hS7 hl13
        have hd7 : PV (RSlice RSpan) M1 x1 (D 2) w13 ∧ PV (RSlice RSpan) M1 x2 (D 5) w13 ∧ True := hd7
        obtain ⟨d5, d6, -⟩ := hd7
        obtain ⟨v14, hq1⟩ : ∃ v, (D 2) = v := ⟨_, rfl⟩
        rw [hq1] at d5
        obtain ⟨v15, hq2⟩ : ∃ v, (D 5) = v := ⟨_, rfl⟩
        rw [hq2] at d6
        refine dg_sub (E' := [(16, v14), (19, v15)]) ⟨(congrArg some hq1), (congrArg some hq2), trivial⟩ ?_
        refine dg_plain rfl (ow_call rfl rfl Tryd.call130 (w_impl_firstCommon (hG.mono (((((hl1.trans hl2).trans hl3).trans hl4).trans hl5).trans hl13)) hC13.old d5 d6 hx3) fun v16 w14 hv16 => ?_)
        obtain ⟨⟨v17, v18, rfl, hv17, hv18⟩, hb7⟩ := hv16
        have hl14 := Le.no M1 hb7
        have hC14 := hC13.no hb7
        have ho23 := ho21.no hb7
        have ho24 := ho22.no hb7 hl14
        obtain rfl := vint_eq hv17
        obtain ⟨bb3, hbb3, rfl⟩ := vbool_ex hv18
        exact ⟨hb7, ⟨_, _, rfl, rfl, (congrArg Value.bool hbb3)⟩⟩
      · intro w15 D hS8 hd8
        have hl15 := Le.no M1 hS8
        have hC15 := hC5.no hS8
        have ho25 := ho5.no hS8
        have ho26 := ho6.no hS8 hl15
        have hd8 : PT2 (PEq (.int .i64 x3.1)) (PEq (.bool x3.2)) (D 6) w15 ∧ True := hd8
        obtain ⟨d7, -⟩ := hd8
        obtain ⟨v19, v20, e3, hd9, hd10⟩ := d7
        subst hd9
        obtain ⟨bb4, hq3, rfl⟩ : ∃ b, b = x3.2 ∧ v20 = .bool b := ⟨_, rfl, hd10⟩
        refine dg_sub (E' := [(20, (.tuple #[(.int .i64 x3.1), (.bool bb4)]))]) ⟨(congrArg some e3), trivial⟩ ?_
        refine dg_plain rfl (ow_move rfl rfl ?_)
        exact ⟨BX.refl _ _, ⟨_, _, rfl, rfl, (congrArg Value.bool hq3)⟩⟩
      · intro w16 D hS9 hd11
        have hl16 := Le.no M1 hS9
        have hC16 := hC5.no hS9
        have ho27 := ho5.no hS9
        have ho28 := ho6.no hS9 hl16
        have hd11 : PT2 (PEq (.int .i64 x3.1)) (PEq (.bool x3.2)) (D 7) w16 ∧ True := hd11
        obtain ⟨d8, -⟩ := hd11
        obtain ⟨v21, v22, e4, hd12, hd13⟩ := d8
        subst hd12
        obtain ⟨bb5, hq4, rfl⟩ : ∃ b, b = x3.2 ∧ v22 = .bool b := ⟨_, rfl, hd13⟩
        refine dg_sub (E' := [(13, (.tuple #[(.int .i64 x3.1), (.bool bb5)]))]) ⟨(congrArg some e4), trivial⟩ ?_
        refine dg_plain rfl (ow_extract rfl rfl rfl ?_)
        exact ⟨BX.refl _ _, rfl⟩
      · intro w17 D hS10 hd14
        have hl17 := Le.no M1 hS10
        have hC17 := hC5.no hS10
        have ho29 := ho5.no hS10
        have ho30 := ho6.no hS10 hl17
        have hd14 : PT2 (PEq (.int .i64 x3.1)) (PEq (.bool x3.2)) (D 7) w17 ∧ True := hd14
        obtain ⟨d9, -⟩ := hd14
        obtain ⟨v23, v24, e5, hd15, hd16⟩ := d9
        subst hd15
        obtain ⟨bb6, hq5, rfl⟩ : ∃ b, b = x3.2 ∧ v24 = .bool b := ⟨_, rfl, hd16⟩
        refine dg_sub (E' := [(13, (.tuple #[(.int .i64 x3.1), (.bool bb6)]))]) ⟨(congrArg some e5), trivial⟩ ?_
        refine dg_plain rfl (ow_extract rfl rfl rfl ?_)
        exact ⟨BX.refl _ _, (congrArg Value.bool hq5)⟩
      · intro w18 D hS11 hd17
        have hl18 := Le.no M1 hS11
        have hC18 := hC5.no hS11
        have ho31 := ho5.no hS11
        have ho32 := ho6.no hS11 hl18
        have hd17 : PEq (.int .i64 x3.1) (D 8) w18 ∧ PT2 (PEq (.int .i64 x3.1)) (PEq (.bool x3.2)) (D 6) w18 ∧ PEq (.int .i64 k1) (D 0) w18 ∧ PA (RSlice RSpan) M1 x1 (D 1) w18 ∧ PV (RSlice RSpan) M1 x1 (D 2) w18 ∧ PEq (.int .i64 k1) (D 3) w18 ∧ PA (RSlice RSpan) M1 x2 (D 4) w18 ∧ PV (RSlice RSpan) M1 x2 (D 5) w18 ∧ PT2 (PEq (.int .i64 x3.1)) (PEq (.bool x3.2)) (D 6) w18 ∧ PT2 (PEq (.int .i64 x3.1)) (PEq (.bool x3.2)) (D 7) w18 ∧ PEq (.int .i64 x3.1) (D 8) w18 ∧ True := hd17
        obtain ⟨d10, d11, d12, d13, d14, d15, d16, d17, d18, d19, d20, -⟩ := hd17
        refine dg_sub (E' := [(21, (.int .i64 x3.1))]) ⟨(congrArg some d10), trivial⟩ ?_
        refine dg_plain rfl (ow_assign rfl rfl ?_)
        exact ⟨BX.refl _ _, rfl⟩
      · intro w19 D hS12 hd18
        have hl19 := Le.no M1 hS12
        have hC19 := hC5.no hS12
        have ho33 := ho5.no hS12
        have ho34 := ho6.no hS12 hl19
        have hd18 : PEq (.int .i64 k1) (D 0) w19 ∧ PA (RSlice RSpan) M1 x1 (D 1) w19 ∧ PV (RSlice RSpan) M1 x1 (D 2) w19 ∧ PEq (.int .i64 k1) (D 3) w19 ∧ PA (RSlice RSpan) M1 x2 (D 4) w19 ∧ PV (RSlice RSpan) M1 x2 (D 5) w19 ∧ PT2 (PEq (.int .i64 x3.1)) (PEq (.bool x3.2)) (D 6) w19 ∧ PT2 (PEq (.int .i64 x3.1)) (PEq (.bool x3.2)) (D 7) w19 ∧ PEq (.int .i64 x3.1) (D 8) w19 ∧ PEq (.bool x3.2) (D 9) w19 ∧ PEq (.int .i64 x3.1) (D 10) w19 ∧ True := hd18
        obtain ⟨-, -, -, -, -, -, -, -, -, d30, d31, -⟩ := hd18
        obtain ⟨bb7, hq6, hq7⟩ : ∃ b, b = x3.2 ∧ (D 9) = .bool b := ⟨_, rfl, d30⟩
        refine lw_sub (E' := [(22, (.bool bb7)), (8, (.int .i64 x3.1)), (2, (.pointer (some p1))), (3, (.pointer (some p2))), (4, (.pointer (some ⟨g1, 0, none⟩))), (6, (.pointer (some ⟨g2, 0, none⟩))), (7, (.int .i64 k1)), (10, (.int .i64 k1))]) ⟨(congrArg some hq7), (congrArg some d31), rfl, rfl, rfl, rfl, rfl, rfl, trivial⟩ ?_
        refine lw_op rfl rfl rfl (ow_assign rfl rfl ?_)
        refine lw_nil ?_
        refine ew_then ?_
        refine cw_seq ?_
        refine cw_seq ?_
        refine cw_region ?_
        refine lw_op rfl rfl rfl (ow_move rfl rfl ?_)
        refine lw_op rfl rfl rfl (ow_not rfl rfl ?_)
        refine lw_nil ?_
        refine ew_then ?_
        replace hb5 := cond_some hb5
        rcases hb5 with ⟨hc2, hb5⟩ | ⟨hc2, hb5⟩
        · obtain rfl := hq6.trans hc2
          refine cw_false rfl ?_
          refine cw_skip ?_
          refine ew_then ?_
          refine cw_region ?_
          refine lw_op rfl rfl rfl (ow_move rfl rfl ?_)
          refine lw_op rfl rfl rfl (ow_move rfl rfl ?_)
          replace hb5 := bind_some hb5
          obtain ⟨x4, hx4, hb5⟩ := hb5
          refine lw_op rfl rfl rfl (ow_indexA (R := RInt) rfl rfl rfl rfl ho34 Tryd.underlying143 (Tryd.sizeOf3 _) hx4 ?_)
          refine lw_op0 rfl rfl (ow_storeElA (R := RInt) rfl rfl rfl rfl ho34 hx4 (Tryd.sizeOf3 _) (vint _) hm5 (.inl hg4) hC19 fun w20 ho35 hb8 hl20 hC20 => ?_)
          have ho36 := ho33.go hb8 (fun e => hn1 e)
          refine lw_nil ?_
          refine ew_blockN ?_
          refine ew_then ?_
          refine cw_region ?_
          refine lw_op rfl rfl rfl (ow_add rfl rfl rfl ?_)
          refine lw_op rfl rfl rfl (ow_move rfl rfl ?_)
          refine lw_nil ?_
          refine ew_nxt ((W (k1 + 1)), k2, k3, k4, k5, (List.set y1 (k1 : Int).toNat x3.1)) hb5 fun a ha => ⟨M1, ?_, ((hl5.trans hl19).trans hl20), hC20, ho36, hm4, ho35, hm5⟩
          exact ha.sub ⟨rfl, rfl, rfl, rfl, rfl, trivial⟩
        · obtain rfl := hq6.trans hc2
          refine cw_true rfl ?_
          refine cw_seq ?_
          refine cw_region ?_
          refine lw_op rfl rfl rfl (ow_build (v := .agg #[(.int .i64 0), (.int .i64 0), (.int .i64 0), (.int .i64 0)]) rfl rfl (by kernel_rfl) ?_)
          have hw1 : VRep RPacket w19 M1 ({ From := 0, To := 0, Port := 0, Proto := 0 } : Packet) (.agg #[(.int .i64 0), (.int .i64 0), (.int .i64 0), (.int .i64 0)]) := shut_Packet
          refine lw_op0 rfl rfl (ow_store (us := [(.int .i64 0), (.int .i64 0), (.int .i64 0), (.int .i64 0)]) (cs' := #[(.int .i64 0), (.int .i64 0), (.int .i64 0), (.int .i64 0)]) rfl rfl rfl rfl ho33 (Tryd.sizeOf38 _) rfl rfl rfl rfl hm4 (.inl hg2) rfl hC19 fun w21 ho37 hb9 hl21 hC21 => ?_)
          have ho38 := ho34.go hb9 (fun e => hn1 e.symm) hl21
          refine lw_op rfl rfl rfl (ow_assign rfl rfl ?_)
          refine lw_nil ?_
          refine ew_then ?_
          refine cw_ret ?_
          refine ew_thenR ?_
          refine ew_blockR ?_
          refine ew_thenR ?_
          refine ew_thenR ?_
          refine ew_blockR ?_
          refine ew_brkR ?_
          refine ew_thenR ?_
          have hw2 : VRep RPacket w21 M1 ({ From := 0, To := 0, Port := 0, Proto := 0 } : Packet) (.agg #[(.int .i64 0), (.int .i64 0), (.int .i64 0), (.int .i64 0)]) := shut_Packet
          have e6 := hR1 _ (Option.some.inj hb5).symm
          subst e6
          obtain rfl := Option.some.inj h
          exact ew_ret (res2 rfl (.cell rfl (own_loadVarA ho37 (Tryd.isAgg38 _) (Tryd.sizeOf38 _) rfl)) (.tmp rfl)) ⟨_, rfl, ⟨_, _, rfl, (hw2.mono hC21.back), ((vbool _))⟩, hC21.bx⟩
    · obtain rfl := hbb1.trans hc1
      refine cw_false rfl ?_
      refine cw_exit ?_
      refine ew_thenX ?_
      refine ew_thenX ?_
      refine ew_blockX ?_
      refine ew_brk (k1, k2, k3, k4, k5, y1) hb5 fun a ha => ⟨M1, ?_, hl5, hC5, ho5, hm4, ho6, hm5⟩
      exact ha.sub ⟨rfl, rfl, rfl, rfl, rfl, trivial⟩
  · rintro ⟨k6, k7, k8, k9, k10, y2⟩ a w22 hlr2 ⟨M2, hF2, hl22, hC22, ho39, hm6, ho40, hm7⟩
    subst hlr2
    refine ew_at (E := [(2, (.pointer (some p1))), (3, (.pointer (some p2))), (4, (.pointer (some ⟨g1, 0, none⟩))), (6, (.pointer (some ⟨g2, 0, none⟩))), (10, (.int .i64 k6))]) hF2 ?_
    refine ew_then ?_
    refine cw_seq ?_
    refine cw_region ?_
    refine lw_op rfl rfl rfl (ow_loadA (R := (RArr 4 RInt)) rfl rfl rfl ho40 (Tryd.sizeOf143 _) (Tryd.isAgg143 _) fun v31 hv31 => ?_)
    replace h := bind_some h
    obtain ⟨x5, hx5, h⟩ := h
    refine lw_op rfl rfl rfl (ow_call rfl rfl Tryd.call131 (w_impl_packetOf (hG.mono ((((hl1.trans hl2).trans hl3).trans hl4).trans hl22)) hC22.old hv31 hx5) fun v32 w23 hv32 => ?_)
    obtain ⟨hv32, hb10⟩ := hv32
    have hl23 := Le.no M2 hb10
    have hC23 := hC22.no hb10
    have ho41 := ho39.no hb10
    have ho42 := ho40.no hb10 hl23
    obtain rfl := open_Packet hv32
    refine lw_op0 rfl rfl (ow_store (us := [(.int .i64 x5.From), (.int .i64 x5.To), (.int .i64 x5.Port), (.int .i64 x5.Proto)]) (cs' := #[(.int .i64 x5.From), (.int .i64 x5.To), (.int .i64 x5.Port), (.int .i64 x5.Proto)]) rfl rfl rfl rfl ho41 (Tryd.sizeOf38 _) rfl rfl rfl rfl hm6 (.inl hg2) rfl hC23 fun w24 ho43 hb11 hl24 hC24 => ?_)
    have ho44 := ho42.go hb11 (fun e => hn1 e.symm) hl24
    refine lw_op rfl rfl rfl (ow_assign rfl rfl ?_)
    refine lw_nil ?_
    refine ew_then ?_
    refine cw_ret ?_
    have hw3 : VRep RPacket w24 M2 ({ From := x5.From, To := x5.To, Port := x5.Port, Proto := x5.Proto } : Packet) (.agg #[(.int .i64 x5.From), (.int .i64 x5.To), (.int .i64 x5.Port), (.int .i64 x5.Proto)]) := shut_Packet
    obtain rfl := Option.some.inj h
    exact ew_ret (res2 rfl (.cell rfl (own_loadVarA ho43 (Tryd.isAgg38 _) (Tryd.sizeOf38 _) rfl)) (.tmp rfl)) ⟨_, rfl, ⟨_, _, rfl, (hw3.mono hC24.back), ((vbool _))⟩, hC24.bx⟩

theorem w_impl_BoxFirst {w : World} {M : Nat → Prop} (hG : ARep (RArr 4 RShape) w M shapes ⟨0, 0, none⟩) (hO : ∀ b, M b → b < w.heap.size) {v0p : Value} {a_b : Box} (h0 : VRep RBox w M a_b v0p) {r : Packet × Bool} (h : F.impl_BoxFirst a_b = some r) :
    Calls Tryd.prog 53 [v0p].toArray w fun e w' => ∃ v, e = .returned v ∧ (∃ u0 u1, v = .tuple #[u0, u1] ∧ VRep RPacket w' M r.1 u0 ∧ VRep RBool w' M r.2 u1) ∧ BX No w w' := by
  have hC : Cx No w M w M := Cx.start hO (fun _ e => e.elim)
  refine walk (N := 16) Tryd.func53 rfl Tryd.ntmps53 rfl ?_
  refine cw_seq ?_
  refine cw_region ?_
  refine lw_op rfl rfl rfl (ow_box (R := RBox) rfl rfl h0 hC fun p1 w1 hp1 hb1 hl1 hC1 => ?_)
  refine lw_op rfl rfl rfl (ow_alloc rfl (Tryd.zeroValue38 _) hC1 fun g1 w2 hg1 hg2 ho1 hb2 hl2 hC2 => ?_)
  have hm1 : (Add g1 M) g1 := .inl rfl
  refine lw_op rfl rfl rfl (ow_assign rfl rfl ?_)
  refine lw_nil ?_
  refine ew_then ?_
  refine cw_seq ?_
  refine cw_seq ?_
  refine cw_region ?_
  refine lw_op rfl rfl rfl (ow_load (R := RBox) rfl rfl (ARep.mono hl2 hp1) (Tryd.sizeOf24 _) (Tryd.isAgg24 _) fun v1 hv1 => ?_)
  replace h := bind_some h
  obtain ⟨x1, hx1, h⟩ := h
  refine lw_op rfl rfl rfl (ow_call rfl rfl Tryd.call23 (w_impl_BoxValid (hG.mono (hl1.trans hl2)) hC2.old hv1 hx1) fun v2 w3 hv2 => ?_)
  obtain ⟨hv2, hb3⟩ := hv2
  have hl3 := Le.no (Add g1 M) hb3
  have hC3 := hC2.no hb3
  have ho2 := ho1.no hb3
  obtain rfl := vbool_eq hv2
  refine lw_op rfl rfl rfl (ow_not rfl rfl ?_)
  refine lw_nil ?_
  refine ew_then ?_
  replace h := cond_some h
  rcases h with ⟨hc1, h⟩ | ⟨hc1, h⟩
  · subst hc1
    refine cw_false rfl ?_
    refine cw_skip ?_
    refine ew_then ?_
    refine cw_seq ?_
    refine cw_region ?_
    refine lw_op rfl rfl rfl (ow_load (R := RBox) rfl rfl (ARep.mono (hl2.trans hl3) hp1) (Tryd.sizeOf24 _) (Tryd.isAgg24 _) fun v3 hv3 => ?_)
    replace h := bind_some h
    obtain ⟨x2, hx2, h⟩ := h
    refine lw_op rfl rfl rfl (ow_call rfl rfl Tryd.call77 (w_impl_sidesOf (hG.mono ((hl1.trans hl2).trans hl3)) hC3.old hv3 hx2) fun v4 w4 hv4 => ?_)
    obtain ⟨hv4, hb4⟩ := hv4
    have hl4 := Le.no (Add g1 M) hb4
    have hC4 := hC3.no hb4
    have ho3 := ho2.no hb4
    refine lw_allocStore (R := (RArr 4 (RSlice RSpan))) rfl rfl rfl rfl rfl rfl rfl Tryd.zeroValue95 Tryd.sizeOf95 rfl rfl rfl (by simp) hv4 hC4 fun p2 w5 hp2 hb5 hl5 hC5 => ?_
    have ho4 := ho3.no hb5
    refine lw_nil ?_
    refine ew_then ?_
    refine cw_seq ?_
    refine cw_region ?_
    refine lw_op rfl rfl rfl (ow_load (R := (RArr 4 (RSlice RSpan))) rfl rfl hp2 (Tryd.sizeOf95 _) (Tryd.isAgg95 _) fun v5 hv5 => ?_)
    refine lw_op rfl rfl rfl (ow_load (R := (RArr 4 (RSlice RSpan))) rfl rfl hp2 (Tryd.sizeOf95 _) (Tryd.isAgg95 _) fun v6 hv6 => ?_)
    replace h := bind_some h
    obtain ⟨x3, hx3, h⟩ := h
    refine lw_op rfl rfl rfl (ow_call rfl rfl Tryd.call104 (w_impl_sides_firstCommon (hG.mono ((((hl1.trans hl2).trans hl3).trans hl4).trans hl5)) hC5.old hv5 hv6 hx3) fun v7 w6 hv7 => ?_)
    obtain ⟨⟨v8, v9, rfl, hv8, hv9⟩, hb6⟩ := hv7
    have hl6 := Le.no (Add g1 M) hb6
    have hC6 := hC5.no hb6
    have ho5 := ho4.no hb6
    obtain ⟨bb1, hbb1, rfl⟩ := vbool_ex hv9
    refine lw_op rfl rfl rfl (ow_extract rfl rfl rfl ?_)
    refine lw_op rfl rfl rfl (ow_extract rfl rfl rfl ?_)
    obtain rfl := open_Packet hv8
    refine lw_op0 rfl rfl (ow_store (us := [(.int .i64 x3.1.From), (.int .i64 x3.1.To), (.int .i64 x3.1.Port), (.int .i64 x3.1.Proto)]) (cs' := #[(.int .i64 x3.1.From), (.int .i64 x3.1.To), (.int .i64 x3.1.Port), (.int .i64 x3.1.Proto)]) rfl rfl rfl rfl ho5 (Tryd.sizeOf38 _) rfl rfl rfl rfl hm1 (.inl hg2) rfl hC6 fun w7 ho6 hb7 hl7 hC7 => ?_)
    refine lw_op rfl rfl rfl (ow_assign rfl rfl ?_)
    refine lw_nil ?_
    refine ew_then ?_
    refine cw_ret ?_
    have hw1 : VRep RPacket w7 (Add g1 M) ({ From := x3.1.From, To := x3.1.To, Port := x3.1.Port, Proto := x3.1.Proto } : Packet) (.agg #[(.int .i64 x3.1.From), (.int .i64 x3.1.To), (.int .i64 x3.1.Port), (.int .i64 x3.1.Proto)]) := shut_Packet
    obtain rfl := Option.some.inj h
    exact ew_ret (res2 rfl (.cell rfl (own_loadVarA ho6 (Tryd.isAgg38 _) (Tryd.sizeOf38 _) rfl)) (.tmp rfl)) ⟨_, rfl, ⟨_, _, rfl, (hw1.mono hC7.back), ((vbool_of hbb1))⟩, hC7.bx⟩
  · subst hc1
    refine cw_true rfl ?_
    refine cw_seq ?_
    refine cw_region ?_
    refine lw_op rfl rfl rfl (ow_build (v := .agg #[(.int .i64 0), (.int .i64 0), (.int .i64 0), (.int .i64 0)]) rfl rfl (by kernel_rfl) ?_)
    have hw2 : VRep RPacket w3 (Add g1 M) ({ From := 0, To := 0, Port := 0, Proto := 0 } : Packet) (.agg #[(.int .i64 0), (.int .i64 0), (.int .i64 0), (.int .i64 0)]) := shut_Packet
    refine lw_op0 rfl rfl (ow_store (us := [(.int .i64 0), (.int .i64 0), (.int .i64 0), (.int .i64 0)]) (cs' := #[(.int .i64 0), (.int .i64 0), (.int .i64 0), (.int .i64 0)]) rfl rfl rfl rfl ho2 (Tryd.sizeOf38 _) rfl rfl rfl rfl hm1 (.inl hg2) rfl hC3 fun w8 ho7 hb8 hl8 hC8 => ?_)
    refine lw_op rfl rfl rfl (ow_assign rfl rfl ?_)
    refine lw_nil ?_
    refine ew_then ?_
    refine cw_ret ?_
    refine ew_thenR ?_
    have hw3 : VRep RPacket w8 (Add g1 M) ({ From := 0, To := 0, Port := 0, Proto := 0 } : Packet) (.agg #[(.int .i64 0), (.int .i64 0), (.int .i64 0), (.int .i64 0)]) := shut_Packet
    obtain rfl := Option.some.inj h
    exact ew_ret (res2 rfl (.cell rfl (own_loadVarA ho7 (Tryd.isAgg38 _) (Tryd.sizeOf38 _) rfl)) (.tmp rfl)) ⟨_, rfl, ⟨_, _, rfl, (hw3.mono hC8.back), ((vbool _))⟩, hC8.bx⟩

theorem w_laws_eqPacket {w : World} {M : Nat → Prop} (_hG : ARep (RArr 4 RShape) w M shapes ⟨0, 0, none⟩) (hO : ∀ b, M b → b < w.heap.size) {v0p : Value} {a_a : Packet} (h0 : VRep RPacket w M a_a v0p) {v1p : Value} {a_b : Packet} (h1 : VRep RPacket w M a_b v1p) {r : Bool} (h : F.laws_eqPacket a_a a_b = some r) :
    Calls Tryd.prog 54 [v0p, v1p].toArray w fun e w' => ∃ v, e = .returned v ∧ VRep RBool w' M r v ∧ BX No w w' := by
  have hC : Cx No w M w M := Cx.start hO (fun _ e => e.elim)
  clear _hG
  refine walk (N := 25) Tryd.func54 rfl Tryd.ntmps54 rfl ?_
  refine cw_seq ?_
  refine cw_region ?_
  refine lw_op rfl rfl rfl (ow_box (R := RPacket) rfl rfl h0 hC fun p1 w1 hp1 hb1 hl1 hC1 => ?_)
  refine lw_op rfl rfl rfl (ow_box (R := RPacket) rfl rfl (VRep.mono hl1 h1) hC1 fun p2 w2 hp2 hb2 hl2 hC2 => ?_)
  refine lw_op rfl rfl rfl (ow_assign rfl rfl ?_)
  refine lw_nil ?_
  refine ew_then ?_
  refine cw_seq ?_
  refine cw_seq ?_
  refine cw_region ?_
  refine lw_op rfl rfl rfl (ow_fieldAddr rfl rfl Tryd.underlying38 rfl (Tryd.sizeOf3 _) ?_)
  refine lw_op rfl rfl rfl (ow_load (R := RInt) rfl rfl (ARep.mono hl2 (hp1.fld fld_Packet_From)) (Tryd.sizeOf3 _) (Tryd.isAgg3 _) fun v1 hv1 => ?_)
  obtain rfl := vint_eq hv1
  refine lw_op rfl rfl rfl (ow_fieldAddr rfl rfl Tryd.underlying38 rfl (Tryd.sizeOf3 _) ?_)
  refine lw_op rfl rfl rfl (ow_load (R := RInt) rfl rfl (hp2.fld fld_Packet_From) (Tryd.sizeOf3 _) (Tryd.isAgg3 _) fun v2 hv2 => ?_)
  obtain rfl := vint_eq hv2
  refine lw_op rfl rfl rfl (ow_neqI rfl rfl rfl fun bb1 hbb1 => ?_)
  refine lw_nil ?_
  refine ew_then ?_
  replace h := cond_some h
  rcases h with ⟨hc1, h⟩ | ⟨hc1, h⟩
  · obtain rfl := hbb1.trans hc1
    refine cw_true rfl ?_
    refine cw_seq ?_
    refine cw_region ?_
    refine lw_op rfl rfl rfl (ow_assign rfl rfl ?_)
    refine lw_nil ?_
    refine ew_then ?_
    refine cw_ret ?_
    refine ew_thenR ?_
    obtain rfl := Option.some.inj h
    exact ew_ret (res1 rfl (.tmp rfl)) ⟨_, rfl, ((vbool _)), hC2.bx⟩
  · obtain rfl := hbb1.trans hc1
    refine cw_false rfl ?_
    refine cw_skip ?_
    refine ew_then ?_
    refine cw_seq ?_
    refine cw_seq ?_
    refine cw_region ?_
    refine lw_op rfl rfl rfl (ow_fieldAddr rfl rfl Tryd.underlying38 rfl (Tryd.sizeOf3 _) ?_)
    refine lw_op rfl rfl rfl (ow_load (R := RInt) rfl rfl (ARep.mono hl2 (hp1.fld fld_Packet_To)) (Tryd.sizeOf3 _) (Tryd.isAgg3 _) fun v3 hv3 => ?_)
    obtain rfl := vint_eq hv3
    refine lw_op rfl rfl rfl (ow_fieldAddr rfl rfl Tryd.underlying38 rfl (Tryd.sizeOf3 _) ?_)
    refine lw_op rfl rfl rfl (ow_load (R := RInt) rfl rfl (hp2.fld fld_Packet_To) (Tryd.sizeOf3 _) (Tryd.isAgg3 _) fun v4 hv4 => ?_)
    obtain rfl := vint_eq hv4
    refine lw_op rfl rfl rfl (ow_neqI rfl rfl rfl fun bb2 hbb2 => ?_)
    refine lw_nil ?_
    refine ew_then ?_
    replace h := cond_some h
    rcases h with ⟨hc2, h⟩ | ⟨hc2, h⟩
    · obtain rfl := hbb2.trans hc2
      refine cw_true rfl ?_
      refine cw_seq ?_
      refine cw_region ?_
      refine lw_op rfl rfl rfl (ow_assign rfl rfl ?_)
      refine lw_nil ?_
      refine ew_then ?_
      refine cw_ret ?_
      refine ew_thenR ?_
      obtain rfl := Option.some.inj h
      exact ew_ret (res1 rfl (.tmp rfl)) ⟨_, rfl, ((vbool _)), hC2.bx⟩
    · obtain rfl := hbb2.trans hc2
      refine cw_false rfl ?_
      refine cw_skip ?_
      refine ew_then ?_
      refine cw_seq ?_
      refine cw_seq ?_
      refine cw_region ?_
      refine lw_op rfl rfl rfl (ow_fieldAddr rfl rfl Tryd.underlying38 rfl (Tryd.sizeOf3 _) ?_)
      refine lw_op rfl rfl rfl (ow_load (R := RInt) rfl rfl (ARep.mono hl2 (hp1.fld fld_Packet_Port)) (Tryd.sizeOf3 _) (Tryd.isAgg3 _) fun v5 hv5 => ?_)
      obtain rfl := vint_eq hv5
      refine lw_op rfl rfl rfl (ow_fieldAddr rfl rfl Tryd.underlying38 rfl (Tryd.sizeOf3 _) ?_)
      refine lw_op rfl rfl rfl (ow_load (R := RInt) rfl rfl (hp2.fld fld_Packet_Port) (Tryd.sizeOf3 _) (Tryd.isAgg3 _) fun v6 hv6 => ?_)
      obtain rfl := vint_eq hv6
      refine lw_op rfl rfl rfl (ow_neqI rfl rfl rfl fun bb3 hbb3 => ?_)
      refine lw_nil ?_
      refine ew_then ?_
      replace h := cond_some h
      rcases h with ⟨hc3, h⟩ | ⟨hc3, h⟩
      · obtain rfl := hbb3.trans hc3
        refine cw_true rfl ?_
        refine cw_seq ?_
        refine cw_region ?_
        refine lw_op rfl rfl rfl (ow_assign rfl rfl ?_)
        refine lw_nil ?_
        refine ew_then ?_
        refine cw_ret ?_
        refine ew_thenR ?_
        obtain rfl := Option.some.inj h
        exact ew_ret (res1 rfl (.tmp rfl)) ⟨_, rfl, ((vbool _)), hC2.bx⟩
      · obtain rfl := hbb3.trans hc3
        refine cw_false rfl ?_
        refine cw_skip ?_
        refine ew_then ?_
        refine cw_seq ?_
        refine cw_seq ?_
        refine cw_region ?_
        refine lw_op rfl rfl rfl (ow_fieldAddr rfl rfl Tryd.underlying38 rfl (Tryd.sizeOf3 _) ?_)
        refine lw_op rfl rfl rfl (ow_load (R := RInt) rfl rfl (ARep.mono hl2 (hp1.fld fld_Packet_Proto)) (Tryd.sizeOf3 _) (Tryd.isAgg3 _) fun v7 hv7 => ?_)
        obtain rfl := vint_eq hv7
        refine lw_op rfl rfl rfl (ow_fieldAddr rfl rfl Tryd.underlying38 rfl (Tryd.sizeOf3 _) ?_)
        refine lw_op rfl rfl rfl (ow_load (R := RInt) rfl rfl (hp2.fld fld_Packet_Proto) (Tryd.sizeOf3 _) (Tryd.isAgg3 _) fun v8 hv8 => ?_)
        obtain rfl := vint_eq hv8
        refine lw_op rfl rfl rfl (ow_neqI rfl rfl rfl fun bb4 hbb4 => ?_)
        refine lw_nil ?_
        refine ew_then ?_
        replace h := cond_some h
        rcases h with ⟨hc4, h⟩ | ⟨hc4, h⟩
        · obtain rfl := hbb4.trans hc4
          refine cw_true rfl ?_
          refine cw_seq ?_
          refine cw_region ?_
          refine lw_op rfl rfl rfl (ow_assign rfl rfl ?_)
          refine lw_nil ?_
          refine ew_then ?_
          refine cw_ret ?_
          refine ew_thenR ?_
          obtain rfl := Option.some.inj h
          exact ew_ret (res1 rfl (.tmp rfl)) ⟨_, rfl, ((vbool _)), hC2.bx⟩
        · obtain rfl := hbb4.trans hc4
          refine cw_false rfl ?_
          refine cw_skip ?_
          refine ew_then ?_
          refine cw_seq ?_
          refine cw_region ?_
          refine lw_op rfl rfl rfl (ow_assign rfl rfl ?_)
          refine lw_nil ?_
          refine ew_then ?_
          refine cw_ret ?_
          obtain rfl := Option.some.inj h
          exact ew_ret (res1 rfl (.tmp rfl)) ⟨_, rfl, ((vbool _)), hC2.bx⟩

theorem w_laws_FnExactBoxFirst {w : World} {M : Nat → Prop} (hG : ARep (RArr 4 RShape) w M shapes ⟨0, 0, none⟩) (hO : ∀ b, M b → b < w.heap.size) {v0p : Value} {a_aB : Box} (h0 : VRep RBox w M a_aB v0p) {r : Bool} (h : F.laws_FnExactBoxFirst a_aB = some r) :
    Calls Tryd.prog 12 [v0p].toArray w fun e w' => ∃ v, e = .returned v ∧ VRep RBool w' M r v ∧ BX No w w' := by
  have hC : Cx No w M w M := Cx.start hO (fun _ e => e.elim)
  refine walk (N := 41) Tryd.func12 rfl Tryd.ntmps12 rfl ?_
  refine cw_seq ?_
  refine cw_region ?_
  refine lw_op rfl rfl rfl (ow_box (R := RBox) rfl rfl h0 hC fun p1 w1 hp1 hb1 hl1 hC1 => ?_)
  refine lw_op rfl rfl rfl (ow_assign rfl rfl ?_)
  refine lw_nil ?_
  refine ew_then ?_
  refine cw_seq ?_
  refine cw_region ?_
  refine lw_op rfl rfl rfl (ow_assign rfl rfl ?_)
  refine lw_nil ?_
  refine ew_then ?_
  refine cw_seq ?_
  refine cw_region ?_
  refine lw_op rfl rfl rfl (ow_load (R := RBox) rfl rfl hp1 (Tryd.sizeOf31 _) (Tryd.isAgg31 _) fun v1 hv1 => ?_)
  refine lw_op rfl rfl rfl (ow_move rfl rfl ?_)
  replace h := bind_some h
  obtain ⟨x1, hx1, h⟩ := h
  refine lw_op rfl rfl rfl (ow_call rfl rfl Tryd.call20 (w_laws_szBox (hG.mono hl1) hC1.old hv1 hx1) fun v2 w2 hv2 => ?_)
  obtain ⟨hv2, hb2⟩ := hv2
  have hl2 := Le.no M hb2
  have hC2 := hC1.no hb2
  obtain rfl := vint_eq hv2
  refine lw_op rfl rfl rfl (ow_assign rfl rfl ?_)
  refine lw_nil ?_
  refine ew_then ?_
  refine cw_seq ?_
  refine cw_seq ?_
  refine cw_region ?_
  refine lw_op rfl rfl rfl (ow_move rfl rfl ?_)
  refine lw_op rfl rfl rfl (ow_lss rfl rfl rfl fun bb1 hbb1 => ?_)
  refine lw_nil ?_
  refine ew_then ?_
  replace h := cond_some h
  rcases h with ⟨hc1, h⟩ | ⟨hc1, h⟩
  · obtain rfl := hbb1.trans hc1
    refine cw_true rfl ?_
    refine cw_seq ?_
    refine cw_region ?_
    refine lw_op rfl rfl rfl (ow_assign rfl rfl ?_)
    refine lw_nil ?_
    refine ew_then ?_
    refine cw_ret ?_
    refine ew_thenR ?_
    obtain rfl := Option.some.inj h
    exact ew_ret (res1 rfl (.tmp rfl)) ⟨_, rfl, ((vbool _)), hC2.bx⟩
  · obtain rfl := hbb1.trans hc1
    refine cw_false rfl ?_
    refine cw_skip ?_
    refine ew_then ?_
    refine cw_seq ?_
    refine cw_region ?_
    refine lw_op rfl rfl rfl (ow_load (R := RBox) rfl rfl (ARep.mono hl2 hp1) (Tryd.sizeOf31 _) (Tryd.isAgg31 _) fun v3 hv3 => ?_)
    replace h := bind_some h
    obtain ⟨x2, hx2, h⟩ := h
    refine lw_op rfl rfl rfl (ow_call rfl rfl Tryd.call22 (w_laws_toBox (hG.mono (hl1.trans hl2)) hC2.old hv3 hx2) fun v4 w3 hv4 => ?_)
    obtain ⟨hv4, hb3⟩ := hv4
    have hl3 := Le.no M hb3
    have hC3 := hC2.no hb3
    replace h := bind_some h
    obtain ⟨x3, hx3, h⟩ := h
    refine lw_op rfl rfl rfl (ow_call rfl rfl Tryd.call52 (w_spec_BoxFirst (hG.mono ((hl1.trans hl2).trans hl3)) hC3.old hv4 hx3) fun v5 w4 hv5 => ?_)
    obtain ⟨⟨v6, v7, rfl, hv6, hv7⟩, hb4⟩ := hv5
    have hl4 := Le.no M hb4
    have hC4 := hC3.no hb4
    obtain ⟨bb2, hbb2, rfl⟩ := vbool_ex hv7
    refine lw_op rfl rfl rfl (ow_move rfl rfl ?_)
    refine lw_op rfl rfl rfl (ow_extract rfl rfl rfl ?_)
    refine lw_op rfl rfl rfl (ow_extract rfl rfl rfl ?_)
    refine lw_allocStore (R := RPacket) rfl rfl rfl rfl rfl rfl rfl Tryd.zeroValue38 Tryd.sizeOf38 rfl rfl rfl (by simp) hv6 hC4 fun p2 w5 hp2 hb5 hl5 hC5 => ?_
    refine lw_op rfl rfl rfl (ow_assign rfl rfl ?_)
    refine lw_nil ?_
    refine ew_then ?_
    refine cw_seq ?_
    refine cw_region ?_
    refine lw_op rfl rfl rfl (ow_load (R := RBox) rfl rfl (ARep.mono (((hl2.trans hl3).trans hl4).trans hl5) hp1) (Tryd.sizeOf31 _) (Tryd.isAgg31 _) fun v8 hv8 => ?_)
    refine lw_op rfl rfl rfl (ow_call rfl rfl Tryd.call22 (w_laws_toBox (hG.mono ((((hl1.trans hl2).trans hl3).trans hl4).trans hl5)) hC5.old hv8 hx2) fun v9 w6 hv9 => ?_)
    obtain ⟨hv9, hb6⟩ := hv9
    have hl6 := Le.no M hb6
    have hC6 := hC5.no hb6
    refine lw_allocStore (R := RBox) rfl rfl rfl rfl rfl rfl rfl Tryd.zeroValue24 Tryd.sizeOf24 rfl rfl rfl (by simp) hv9 hC6 fun p3 w7 hp3 hb7 hl7 hC7 => ?_
    refine lw_nil ?_
    refine ew_then ?_
    refine cw_seq ?_
    refine cw_region ?_
    refine lw_op rfl rfl rfl (ow_load (R := RBox) rfl rfl hp3 (Tryd.sizeOf24 _) (Tryd.isAgg24 _) fun v10 hv10 => ?_)
    replace h := bind_some h
    obtain ⟨x4, hx4, h⟩ := h
    refine lw_op rfl rfl rfl (ow_call rfl rfl Tryd.call53 (w_impl_BoxFirst (hG.mono ((((((hl1.trans hl2).trans hl3).trans hl4).trans hl5).trans hl6).trans hl7)) hC7.old hv10 hx4) fun v11 w8 hv11 => ?_)
    obtain ⟨⟨v12, v13, rfl, hv12, hv13⟩, hb8⟩ := hv11
    have hl8 := Le.no M hb8
    have hC8 := hC7.no hb8
    obtain ⟨bb3, hbb3, rfl⟩ := vbool_ex hv13
    refine lw_op rfl rfl rfl (ow_move rfl rfl ?_)
    refine lw_op rfl rfl rfl (ow_extract rfl rfl rfl ?_)
    refine lw_op rfl rfl rfl (ow_extract rfl rfl rfl ?_)
    refine lw_allocStore (R := RPacket) rfl rfl rfl rfl rfl rfl rfl Tryd.zeroValue38 Tryd.sizeOf38 rfl rfl rfl (by simp) hv12 hC8 fun p4 w9 hp4 hb9 hl9 hC9 => ?_
    refine lw_op rfl rfl rfl (ow_assign rfl rfl ?_)
    refine lw_nil ?_
    refine ew_then ?_
    refine cw_seq ?_
    refine cw_seq ?_
    refine cw_region ?_
    refine lw_op rfl rfl rfl (ow_load (R := RPacket) rfl rfl hp4 (Tryd.sizeOf38 _) (Tryd.isAgg38 _) fun v14 hv14 => ?_)
    refine lw_op rfl rfl rfl (ow_load (R := RPacket) rfl rfl (ARep.mono (((hl6.trans hl7).trans hl8).trans hl9) hp2) (Tryd.sizeOf38 _) (Tryd.isAgg38 _) fun v15 hv15 => ?_)
    replace h := bind_some h
    obtain ⟨x5, hx5, h⟩ := h
    refine lw_op rfl rfl rfl (ow_call rfl rfl Tryd.call54 (w_laws_eqPacket (hG.mono ((((((((hl1.trans hl2).trans hl3).trans hl4).trans hl5).trans hl6).trans hl7).trans hl8).trans hl9)) hC9.old hv14 hv15 hx5) fun v16 w10 hv16 => ?_)
    obtain ⟨hv16, hb10⟩ := hv16
    have hl10 := Le.no M hb10
    have hC10 := hC9.no hb10
    obtain rfl := vbool_eq hv16
    refine lw_op rfl rfl rfl (ow_not rfl rfl ?_)
    refine lw_op rfl rfl rfl (ow_move rfl rfl ?_)
    replace h := cond_some h
    rcases h with ⟨hc2, h⟩ | ⟨hc2, h⟩
    · subst hc2
      refine lw_on rfl rfl rfl rfl rfl rfl (ow_move rfl rfl ?_)
      refine lw_on rfl rfl rfl rfl rfl rfl (ow_move rfl rfl ?_)
      refine lw_on rfl rfl rfl rfl rfl rfl (ow_neqB rfl rfl rfl Tryd.underlying4 fun bb4 hbb4 => ?_)
      have hbb4' : bb4 = (x4.2 != x3.2) := hbb4.trans (by rw [hbb3, hbb2])
      refine lw_op rfl rfl rfl (ow_pickF rfl rfl rfl ?_)
      refine lw_nil ?_
      refine ew_then ?_
      replace h := cond_some h
      rcases h with ⟨hc3, h⟩ | ⟨hc3, h⟩
      · obtain rfl := hbb4'.trans hc3
        refine cw_true rfl ?_
        refine cw_seq ?_
        refine cw_region ?_
        refine lw_op rfl rfl rfl (ow_assign rfl rfl ?_)
        refine lw_nil ?_
        refine ew_then ?_
        refine cw_ret ?_
        refine ew_thenR ?_
        obtain rfl := Option.some.inj h
        exact ew_ret (res1 rfl (.tmp rfl)) ⟨_, rfl, ((vbool _)), hC10.bx⟩
      · obtain rfl := hbb4'.trans hc3
        refine cw_false rfl ?_
        refine cw_skip ?_
        refine ew_then ?_
        refine cw_seq ?_
        refine cw_seq ?_
        refine cw_sub (E' := [(1, (.pointer (some p1))), (2, (.bool false)), (6, (.pointer (some p3)))]) ⟨rfl, rfl, rfl, trivial⟩ ?_
        refine cw_drawQ 3 [PV RBox M x2, PV RBox M a_aB, PV RBox M x2] (by kernel_rfl) rfl (by kernel_rfl) ⟨PV.mono _ _ _, PV.mono _ _ _, PV.mono _ _ _, trivial⟩ ⟨?_, ?_, ?_, trivial⟩ ?_
        · intro w12 D hS1 hd1
          have hl12 := Le.no M hS1
          have hC12 := hC10.no hS1
          refine dg_sub (E' := [(6, (.pointer (some p3)))]) ⟨rfl, trivial⟩ ?_
          refine dg_plain rfl (ow_load (R := RBox) rfl rfl (ARep.mono (((hl8.trans hl9).trans hl10).trans hl12) hp3) (Tryd.sizeOf24 _) (Tryd.isAgg24 _) fun v20 hv20 => ?_)
          exact ⟨BX.refl _ _, hv20⟩
        · intro w13 D hS2 hd2
          have hl13 := Le.no M hS2
          have hC13 := hC10.no hS2
          refine dg_sub (E' := [(1, (.pointer (some p1)))]) ⟨rfl, trivial⟩ ?_
          refine dg_plain rfl (ow_load (R := RBox) rfl rfl (ARep.mono (((((((((hl2.trans hl3).trans hl4).trans hl5).trans hl6).trans hl7).trans hl8).trans hl9).trans hl10).trans hl13) hp1) (Tryd.sizeOf31 _) (Tryd.isAgg31 _) fun v21 hv21 => ?_)
          exact ⟨BX.refl _ _, hv21⟩
        · intro w14 D hS3 hd3
          have hl14 := Le.no M hS3
          have hC14 := hC10.no hS3
          have hd3 : PV RBox M a_aB (D 1) w14 ∧ True := hd3
          obtain ⟨d1, -⟩ := hd3
          obtain ⟨v22, hq1⟩ : ∃ v, (D 1) = v := ⟨_, rfl⟩
          rw [hq1] at d1
          refine dg_sub (E' := [(37, v22)]) ⟨(congrArg some hq1), trivial⟩ ?_
          refine dg_plain rfl (ow_call rfl rfl Tryd.call22 (w_laws_toBox (hG.mono ((((((((((hl1.trans hl2).trans hl3).trans hl4).trans hl5).trans hl6).trans hl7).trans hl8).trans hl9).trans hl10).trans hl14)) hC14.old d1 hx2) fun v23 w15 hv23 => ?_)
          obtain ⟨hv23, hb12⟩ := hv23
          have hl15 := Le.no M hb12
          have hC15 := hC14.no hb12
          exact ⟨hb12, hv23⟩
        · intro w16 D hS4 hd4
          have hl16 := Le.no M hS4
          have hC16 := hC10.no hS4
          have hd4 : PV RBox M x2 (D 0) w16 ∧ PV RBox M a_aB (D 1) w16 ∧ PV RBox M x2 (D 2) w16 ∧ True := hd4
          obtain ⟨d2, -, d4, -⟩ := hd4
          obtain ⟨v24, hq2⟩ : ∃ v, (D 0) = v := ⟨_, rfl⟩
          rw [hq2] at d2
          obtain ⟨v25, hq3⟩ : ∃ v, (D 2) = v := ⟨_, rfl⟩
          rw [hq3] at d4
          refine lw_sub (E' := [(36, v24), (38, v25), (1, (.pointer (some p1))), (2, (.bool false)), (6, (.pointer (some p3)))]) ⟨(congrArg some hq2), (congrArg some hq3), rfl, rfl, rfl, trivial⟩ ?_
          replace h := bind_some h
          obtain ⟨x6, hx6, h⟩ := h
          refine lw_op rfl rfl rfl (ow_call rfl rfl Tryd.call17 (w_laws_eqBox (hG.mono ((((((((((hl1.trans hl2).trans hl3).trans hl4).trans hl5).trans hl6).trans hl7).trans hl8).trans hl9).trans hl10).trans hl16)) hC16.old d2 d4 hx6) fun v26 w17 hv26 => ?_)
          obtain ⟨hv26, hb13⟩ := hv26
          have hl17 := Le.no M hb13
          have hC17 := hC16.no hb13
          obtain rfl := vbool_eq hv26
          refine lw_op rfl rfl rfl (ow_not rfl rfl ?_)
          refine lw_nil ?_
          refine ew_then ?_
          replace h := cond_some h
          rcases h with ⟨hc4, h⟩ | ⟨hc4, h⟩
          · subst hc4
            refine cw_false rfl ?_
            refine cw_skip ?_
            refine ew_then ?_
            refine cw_seq ?_
            refine cw_region ?_
            refine lw_op rfl rfl rfl (ow_assign rfl rfl ?_)
            refine lw_nil ?_
            refine ew_then ?_
            refine cw_ret ?_
            obtain rfl := Option.some.inj h
            exact ew_ret (res1 rfl (.tmp rfl)) ⟨_, rfl, ((vbool _)), hC17.bx⟩
          · subst hc4
            refine cw_true rfl ?_
            refine cw_seq ?_
            refine cw_region ?_
            refine lw_op rfl rfl rfl (ow_assign rfl rfl ?_)
            refine lw_nil ?_
            refine ew_then ?_
            refine cw_ret ?_
            refine ew_thenR ?_
            obtain rfl := Option.some.inj h
            exact ew_ret (res1 rfl (.tmp rfl)) ⟨_, rfl, ((vbool _)), hC17.bx⟩
    · subst hc2
      refine lw_off rfl rfl rfl rfl rfl rfl ?_
      refine lw_off rfl rfl rfl rfl rfl rfl ?_
      refine lw_off rfl rfl rfl rfl rfl rfl ?_
      refine lw_op rfl rfl rfl (ow_pickT rfl rfl rfl ?_)
      refine lw_nil ?_
      refine ew_then ?_
      refine cw_true rfl ?_
      refine cw_seq ?_
      refine cw_region ?_
      refine lw_op rfl rfl rfl (ow_assign rfl rfl ?_)
      refine lw_nil ?_
      refine ew_then ?_
      refine cw_ret ?_
      refine ew_thenR ?_
      obtain rfl := Option.some.inj h
      exact ew_ret (res1 rfl (.tmp rfl)) ⟨_, rfl, ((vbool _)), hC10.bx⟩


end Go.PF
