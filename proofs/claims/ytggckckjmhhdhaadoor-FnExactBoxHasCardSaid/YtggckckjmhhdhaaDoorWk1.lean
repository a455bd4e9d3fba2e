/- The walks; no condition. -/
import Derived.Test.YtggckckjmhhdhaaDoorProg
import Derived.Test.YtggckckjmhhdhaaDoorWk0
import Derived.Test.YtggckckjmhhdhaaDoorPFChain
set_option maxRecDepth 100000
set_option maxHeartbeats 4000000
namespace Go.PF
open Go Go.RowKit Go.Proofs

theorem w_spec_BoxValid {w : World} {M : Nat → Prop} (hG : ARep (RArr 4 RShape) w M shapes ⟨0, 0, none⟩) (hO : ∀ b, M b → b < w.heap.size) {v0p : Value} {a_b : Box} (h0 : VRep RBox w M a_b v0p) {r : Bool} (h : F.spec_BoxValid a_b = some r) :
    Calls Tryd.prog 21 [v0p].toArray w fun e w' => ∃ v, e = .returned v ∧ VRep RBool w' M r v ∧ BX No w w' := by
  have hC : Cx No w M w M := Cx.start hO (fun _ e => e.elim)
  refine walk (N := 28) Tryd.func21 rfl Tryd.ntmps21 rfl ?_
  refine cw_seq ?_
  refine cw_region ?_
  refine lw_op rfl rfl rfl (ow_box (R := RBox) rfl rfl h0 hC fun p1 w1 hp1 hb1 hl1 hC1 => ?_)
  refine lw_op rfl rfl rfl (ow_assign rfl rfl ?_)
  refine lw_nil ?_
  refine ew_then ?_
  refine cw_seq ?_
  refine cw_seq ?_
  refine cw_region ?_
  refine lw_op rfl rfl rfl (ow_assign rfl rfl ?_)
  refine lw_nil ?_
  refine ew_then ?_
  replace h := bind_some h
  obtain ⟨lr1, hlr1, h⟩ := h
  refine cw_for hlr1 (fun s a w' => ∃ (M' : Nat → Prop), Fits 28 [(1, (.pointer (some p1))), (3, (.int .i64 s))] a ∧ Le w1 M w' M' ∧ Cx No w M w' M') ?_ ?_ ?_
  · intro a ha
    exact ⟨M, ha.sub ⟨rfl, rfl, trivial⟩, Le.refl _ _, hC1⟩
  · rintro k1 a w2 sr1 ⟨M1, hF1, hl2, hC2⟩ hb2 hR1
    refine cw_at (E := [(1, (.pointer (some p1))), (3, (.int .i64 k1))]) hF1 ?_
    refine cw_seq ?_
    refine cw_seq ?_
    refine cw_region ?_
    refine lw_op rfl rfl rfl (ow_move rfl rfl ?_)
    refine lw_op rfl rfl rfl (ow_fieldAddr rfl rfl Tryd.underlying24 rfl (Tryd.sizeOf22 _) ?_)
    refine lw_op rfl rfl rfl (ow_load (R := (RSlice (RSlice RSpan))) rfl rfl (ARep.mono hl2 (hp1.fld fld_Box_Sides)) (Tryd.sizeOf22 _) (Tryd.isAgg22 _) fun v2 hv2 => ?_)
    refine lw_op rfl rfl rfl (ow_len rfl rfl hv2 Tryd.underlying22 rfl ?_)
    refine lw_op rfl rfl rfl (ow_lss rfl rfl rfl fun bb1 hbb1 => ?_)
    refine lw_nil ?_
    refine ew_then ?_
    replace hb2 := cond_some hb2
    rcases hb2 with ⟨hc1, hb2⟩ | ⟨hc1, hb2⟩
    · obtain rfl := hbb1.trans hc1
      refine cw_true rfl ?_
      refine cw_skip ?_
      refine ew_then ?_
      refine cw_seq ?_
      refine cw_block ?_
      refine cw_seq ?_
      replace hb2 := cond_some hb2
      rcases hb2 with ⟨hc2, hb2⟩ | ⟨hc2, hb2⟩
      · refine cw_sub (E' := [(1, (.pointer (some p1))), (3, (.int .i64 k1))]) ⟨rfl, rfl, trivial⟩ ?_
        refine cw_drawQ 10 [PEq (.int .i64 k1), PEq (.bool true), PEq (.bool true), PEq undef, PEq undef, PEq undef, PEq undef, PEq undef, PEq undef, PEq undef] (by kernel_rfl) rfl (by kernel_rfl) ⟨PEq.mono _, PEq.mono _, PEq.mono _, PEq.mono _, PEq.mono _, PEq.mono _, PEq.mono _, PEq.mono _, PEq.mono _, PEq.mono _, trivial⟩ ⟨?_, ?_, ?_, ?_, ?_, ?_, ?_, ?_, ?_, ?_, trivial⟩ ?_
        · intro w3 D hS1 hd1
          have hl3 := Le.no M1 hS1
          have hC3 := hC2.no hS1
          refine dg_sub (E' := [(3, (.int .i64 k1))]) ⟨rfl, trivial⟩ ?_
          refine dg_plain rfl (ow_move rfl rfl ?_)
          exact ⟨BX.refl _ _, rfl⟩
        · intro w4 D hS2 hd2
          have hl4 := Le.no M1 hS2
          have hC4 := hC2.no hS2
          have hd2 : PEq (.int .i64 k1) (D 0) w4 ∧ True := hd2
          obtain ⟨d1, -⟩ := hd2
          refine dg_sub (E' := [(11, (.int .i64 k1))]) ⟨(congrArg some d1), trivial⟩ ?_
          refine dg_plain rfl (ow_geq rfl rfl rfl fun bb3 hbb3 => ?_)
          obtain rfl := hbb3.trans hc2
          exact ⟨BX.refl _ _, rfl⟩
        · intro w5 D hS3 hd3
          have hl5 := Le.no M1 hS3
          have hC5 := hC2.no hS3
          have hd3 : PEq (.bool true) (D 1) w5 ∧ True := hd3
          obtain ⟨d2, -⟩ := hd3
          refine dg_sub (E' := [(12, (.bool true))]) ⟨(congrArg some d2), trivial⟩ ?_
          refine dg_plain rfl (ow_move rfl rfl ?_)
          exact ⟨BX.refl _ _, rfl⟩
        · intro w6 D hS4 hd4
          have hl6 := Le.no M1 hS4
          have hC6 := hC2.no hS4
          have hd4 : PEq (.bool true) (D 2) w6 ∧ True := hd4
          obtain ⟨d3, -⟩ := hd4
          refine dg_sub (E' := [(13, (.bool true)), (1, (.pointer (some p1)))]) ⟨(congrArg some d3), rfl, trivial⟩ ?_
          exact dg_off rfl rfl rfl rfl ⟨BX.refl _ _, rfl⟩
        · intro w7 D hS5 hd5
          have hl7 := Le.no M1 hS5
          have hC7 := hC2.no hS5
          have hd5 : PEq undef (D 3) w7 ∧ PEq (.bool true) (D 2) w7 ∧ True := hd5
          obtain ⟨d4, d5, -⟩ := hd5
          refine dg_sub (E' := [(14, undef), (13, (.bool true))]) ⟨(congrArg some d4), (congrArg some d5), trivial⟩ ?_
          exact dg_off rfl rfl rfl rfl ⟨BX.refl _ _, rfl⟩
        · intro w8 D hS6 hd6
          have hl8 := Le.no M1 hS6
          have hC8 := hC2.no hS6
          have hd6 : PEq (.bool true) (D 2) w8 ∧ True := hd6
          obtain ⟨d6, -⟩ := hd6
          refine dg_sub (E' := [(13, (.bool true)), (3, (.int .i64 k1))]) ⟨(congrArg some d6), rfl, trivial⟩ ?_
          exact dg_off rfl rfl rfl rfl ⟨BX.refl _ _, rfl⟩
        · intro w9 D hS7 hd7
          have hl9 := Le.no M1 hS7
          have hC9 := hC2.no hS7
          have hd7 : PEq undef (D 4) w9 ∧ PEq undef (D 5) w9 ∧ PEq (.bool true) (D 2) w9 ∧ True := hd7
          obtain ⟨d7, d8, d9, -⟩ := hd7
          refine dg_sub (E' := [(15, undef), (16, undef), (13, (.bool true))]) ⟨(congrArg some d7), (congrArg some d8), (congrArg some d9), trivial⟩ ?_
          exact dg_off rfl rfl rfl rfl ⟨BX.refl _ _, rfl⟩
        · intro w10 D hS8 hd8
          have hl10 := Le.no M1 hS8
          have hC10 := hC2.no hS8
          have hd8 : PEq undef (D 6) w10 ∧ PEq (.bool true) (D 2) w10 ∧ True := hd8
          obtain ⟨d10, d11, -⟩ := hd8
          refine dg_sub (E' := [(17, undef), (13, (.bool true))]) ⟨(congrArg some d10), (congrArg some d11), trivial⟩ ?_
          exact dg_off rfl rfl rfl rfl ⟨BX.refl _ _, rfl⟩
        · intro w11 D hS9 hd9
          have hl11 := Le.no M1 hS9
          have hC11 := hC2.no hS9
          have hd9 : PEq (.bool true) (D 2) w11 ∧ True := hd9
          obtain ⟨d12, -⟩ := hd9
          refine dg_sub (E' := [(13, (.bool true)), (3, (.int .i64 k1))]) ⟨(congrArg some d12), rfl, trivial⟩ ?_
          exact dg_off rfl rfl rfl rfl ⟨BX.refl _ _, rfl⟩
        · intro w12 D hS10 hd10
          have hl12 := Le.no M1 hS10
          have hC12 := hC2.no hS10
          have hd10 : PEq undef (D 8) w12 ∧ PEq (.bool true) (D 2) w12 ∧ PEq (.bool true) (D 2) w12 ∧ True := hd10
          obtain ⟨d13, d14, d15, -⟩ := hd10
          refine dg_sub (E' := [(19, undef), (13, (.bool true))]) ⟨(congrArg some d13), (congrArg some d14), trivial⟩ ?_
          exact dg_off rfl rfl rfl rfl ⟨BX.refl _ _, rfl⟩
        · intro w13 D hS11 hd11
          have hl13 := Le.no M1 hS11
          have hC13 := hC2.no hS11
          have hd11 : PEq (.int .i64 k1) (D 0) w13 ∧ PEq (.bool true) (D 1) w13 ∧ PEq (.bool true) (D 2) w13 ∧ PEq undef (D 3) w13 ∧ PEq undef (D 4) w13 ∧ PEq undef (D 5) w13 ∧ PEq undef (D 6) w13 ∧ PEq undef (D 7) w13 ∧ PEq undef (D 8) w13 ∧ PEq undef (D 9) w13 ∧ True := hd11
          obtain ⟨-, -, d18, -, -, -, -, d23, -, d25, -⟩ := hd11
          refine lw_sub (E' := [(13, (.bool true)), (18, undef), (20, undef), (1, (.pointer (some p1))), (3, (.int .i64 k1))]) ⟨(congrArg some d18), (congrArg some d23), (congrArg some d25), rfl, rfl, trivial⟩ ?_
          refine lw_off rfl rfl rfl rfl rfl rfl ?_
          refine lw_off rfl rfl rfl rfl rfl rfl ?_
          refine lw_op rfl rfl rfl (ow_pickT rfl rfl rfl ?_)
          refine lw_nil ?_
          refine ew_then ?_
          refine cw_true rfl ?_
          refine cw_seq ?_
          refine cw_region ?_
          refine lw_op rfl rfl rfl (ow_assign rfl rfl ?_)
          refine lw_nil ?_
          refine ew_then ?_
          refine cw_ret ?_
          refine ew_blockR ?_
          refine ew_thenR ?_
          refine ew_thenR ?_
          refine ew_blockR ?_
          refine ew_brkR ?_
          refine ew_thenR ?_
          have e1 := hR1 _ (Option.some.inj hb2).symm
          subst e1
          obtain rfl := Option.some.inj h
          exact ew_ret (res1 rfl (.tmp rfl)) ⟨_, rfl, ((vbool _)), hC13.bx⟩
      · replace hb2 := bind_some hb2
        obtain ⟨x1, hx1, hb2⟩ := hb2
        replace hb2 := bind_some hb2
        obtain ⟨x2, hx2, hb2⟩ := hb2
        refine cw_sub (E' := [(1, (.pointer (some p1))), (3, (.int .i64 k1))]) ⟨rfl, rfl, trivial⟩ ?_
        refine cw_drawQ 10 [PEq (.int .i64 k1), PEq (.bool false), PEq (.bool false), PA (RSlice (RSlice RSpan)) M1 a_b.Sides, PV (RSlice (RSlice RSpan)) M1 a_b.Sides, PEq (.int .i64 k1), PA (RSlice RSpan) M1 x1, PV (RSlice RSpan) M1 x1, PEq (.int .i64 k1), PEq (.int .i64 x2)] (by kernel_rfl) rfl (by kernel_rfl) ⟨PEq.mono _, PEq.mono _, PEq.mono _, PA.mono _ _ _, PV.mono _ _ _, PEq.mono _, PA.mono _ _ _, PV.mono _ _ _, PEq.mono _, PEq.mono _, trivial⟩ ⟨?_, ?_, ?_, ?_, ?_, ?_, ?_, ?_, ?_, ?_, trivial⟩ ?_
        · intro w15 D hS12 hd12
          have hl15 := Le.no M1 hS12
          have hC15 := hC2.no hS12
          refine dg_sub (E' := [(3, (.int .i64 k1))]) ⟨rfl, trivial⟩ ?_
          refine dg_plain rfl (ow_move rfl rfl ?_)
          exact ⟨BX.refl _ _, rfl⟩
        · intro w16 D hS13 hd13
          have hl16 := Le.no M1 hS13
          have hC16 := hC2.no hS13
          have hd13 : PEq (.int .i64 k1) (D 0) w16 ∧ True := hd13
          obtain ⟨d26, -⟩ := hd13
          refine dg_sub (E' := [(11, (.int .i64 k1))]) ⟨(congrArg some d26), trivial⟩ ?_
          refine dg_plain rfl (ow_geq rfl rfl rfl fun bb4 hbb4 => ?_)
          obtain rfl := hbb4.trans hc2
          exact ⟨BX.refl _ _, rfl⟩
        · intro w17 D hS14 hd14
          have hl17 := Le.no M1 hS14
          have hC17 := hC2.no hS14
          have hd14 : PEq (.bool false) (D 1) w17 ∧ True := hd14
          obtain ⟨d27, -⟩ := hd14
          refine dg_sub (E' := [(12, (.bool false))]) ⟨(congrArg some d27), trivial⟩ ?_
          refine dg_plain rfl (ow_move rfl rfl ?_)
          exact ⟨BX.refl _ _, rfl⟩
        · intro w18 D hS15 hd15
          have hl18 := Le.no M1 hS15
          have hC18 := hC2.no hS15
          have hd15 : PEq (.bool false) (D 2) w18 ∧ True := hd15
          obtain ⟨d28, -⟩ := hd15
          refine dg_sub (E' := [(13, (.bool false)), (1, (.pointer (some p1)))]) ⟨(congrArg some d28), rfl, trivial⟩ ?_
          refine dg_on rfl rfl rfl rfl (ow_fieldAddr rfl rfl Tryd.underlying24 rfl (Tryd.sizeOf22 _) ?_)
          exact ⟨BX.refl _ _, ⟨_, rfl, (ARep.mono (hl2.trans hl18) (hp1.fld fld_Box_Sides))⟩⟩
        · intro w19 D hS16 hd16
          have hl19 := Le.no M1 hS16
          have hC19 := hC2.no hS16
          have hd16 : PA (RSlice (RSlice RSpan)) M1 a_b.Sides (D 3) w19 ∧ PEq (.bool false) (D 2) w19 ∧ True := hd16
          obtain ⟨d29, d30, -⟩ := hd16
          obtain ⟨p3, e2, ha1⟩ := d29
          refine dg_sub (E' := [(14, (.pointer (some p3))), (13, (.bool false))]) ⟨(congrArg some e2), (congrArg some d30), trivial⟩ ?_
          refine dg_on rfl rfl rfl rfl (ow_load (R := (RSlice (RSlice RSpan))) rfl rfl ha1 (Tryd.sizeOf22 _) (Tryd.isAgg22 _) fun v6 hv6 => ?_)
          exact ⟨BX.refl _ _, hv6⟩
        · intro w20 D hS17 hd17
          have hl20 := Le.no M1 hS17
          have hC20 := hC2.no hS17
          have hd17 : PEq (.bool false) (D 2) w20 ∧ True := hd17
          obtain ⟨d31, -⟩ := hd17
          refine dg_sub (E' := [(13, (.bool false)), (3, (.int .i64 k1))]) ⟨(congrArg some d31), rfl, trivial⟩ ?_
          refine dg_on rfl rfl rfl rfl (ow_move rfl rfl ?_)
          exact ⟨BX.refl _ _, rfl⟩
        · intro w21 D hS18 hd18
          have hl21 := Le.no M1 hS18
          have hC21 := hC2.no hS18
          have hd18 : PV (RSlice (RSlice RSpan)) M1 a_b.Sides (D 4) w21 ∧ PEq (.int .i64 k1) (D 5) w21 ∧ PEq (.bool false) (D 2) w21 ∧ True := hd18
          obtain ⟨d32, d33, d34, -⟩ := hd18
          obtain ⟨v7, hq1⟩ : ∃ v, (D 4) = v := ⟨_, rfl⟩
          rw [hq1] at d32
          refine dg_sub (E' := [(15, v7), (16, (.int .i64 k1)), (13, (.bool false))]) ⟨(congrArg some hq1), (congrArg some d33), (congrArg some d34), trivial⟩ ?_
          refine dg_on rfl rfl rfl rfl (ow_indexSlice (R := (RSlice RSpan)) rfl rfl rfl d32 Tryd.underlying22 (Tryd.sizeOf93 _) hx1 fun p4 hp4 => ?_)
          exact ⟨BX.refl _ _, ⟨_, rfl, hp4⟩⟩
        · intro w22 D hS19 hd19
          have hl22 := Le.no M1 hS19
          have hC22 := hC2.no hS19
          have hd19 : PA (RSlice RSpan) M1 x1 (D 6) w22 ∧ PEq (.bool false) (D 2) w22 ∧ True := hd19
          obtain ⟨d35, d36, -⟩ := hd19
          obtain ⟨p5, e3, ha2⟩ := d35
          refine dg_sub (E' := [(17, (.pointer (some p5))), (13, (.bool false))]) ⟨(congrArg some e3), (congrArg some d36), trivial⟩ ?_
          refine dg_on rfl rfl rfl rfl (ow_load (R := (RSlice RSpan)) rfl rfl ha2 (Tryd.sizeOf93 _) (Tryd.isAgg93 _) fun v8 hv8 => ?_)
          exact ⟨BX.refl _ _, hv8⟩
        · intro w23 D hS20 hd20
          have hl23 := Le.no M1 hS20
          have hC23 := hC2.no hS20
          have hd20 : PEq (.bool false) (D 2) w23 ∧ True := hd20
          obtain ⟨d37, -⟩ := hd20
          refine dg_sub (E' := [(13, (.bool false)), (3, (.int .i64 k1))]) ⟨(congrArg some d37), rfl, trivial⟩ ?_
          refine dg_on rfl rfl rfl rfl (ow_move rfl rfl ?_)
          exact ⟨BX.refl _ _, rfl⟩
        · intro w24 D hS21 hd21
          have hl24 := Le.no M1 hS21
          have hC24 := hC2.no hS21
          have hd21 : PEq (.int .i64 k1) (D 8) w24 ∧ PEq (.bool false) (D 2) w24 ∧ PEq (.bool false) (D 2) w24 ∧ True := hd21
          obtain ⟨d38, d39, d40, -⟩ := hd21
          refine dg_sub (E' := [(19, (.int .i64 k1)), (13, (.bool false))]) ⟨(congrArg some d38), (congrArg some d39), trivial⟩ ?_
          refine dg_on rfl rfl rfl rfl (ow_call rfl rfl Tryd.call65 (w_spec_FieldTop (hG.mono ((hl1.trans hl2).trans hl24)) hC24.old hx2) fun v9 w25 hv9 => ?_)
          obtain ⟨hv9, hb4⟩ := hv9
          have hl25 := Le.no M1 hb4
          have hC25 := hC24.no hb4
          obtain rfl := vint_eq hv9
          exact ⟨hb4, rfl⟩
        · intro w26 D hS22 hd22
          have hl26 := Le.no M1 hS22
          have hC26 := hC2.no hS22
          have hd22 : PEq (.int .i64 k1) (D 0) w26 ∧ PEq (.bool false) (D 1) w26 ∧ PEq (.bool false) (D 2) w26 ∧ PA (RSlice (RSlice RSpan)) M1 a_b.Sides (D 3) w26 ∧ PV (RSlice (RSlice RSpan)) M1 a_b.Sides (D 4) w26 ∧ PEq (.int .i64 k1) (D 5) w26 ∧ PA (RSlice RSpan) M1 x1 (D 6) w26 ∧ PV (RSlice RSpan) M1 x1 (D 7) w26 ∧ PEq (.int .i64 k1) (D 8) w26 ∧ PEq (.int .i64 x2) (D 9) w26 ∧ True := hd22
          obtain ⟨-, -, d43, -, -, -, -, d48, -, d50, -⟩ := hd22
          obtain ⟨v10, hq2⟩ : ∃ v, (D 7) = v := ⟨_, rfl⟩
          rw [hq2] at d48
          refine lw_sub (E' := [(13, (.bool false)), (18, v10), (20, (.int .i64 x2)), (1, (.pointer (some p1))), (3, (.int .i64 k1))]) ⟨(congrArg some d43), (congrArg some hq2), (congrArg some d50), rfl, rfl, trivial⟩ ?_
          replace hb2 := bind_some hb2
          obtain ⟨x3, hx3, hb2⟩ := hb2
          refine lw_on rfl rfl rfl rfl rfl rfl (ow_call rfl rfl Tryd.call72 (w_spec_SpansValid (hG.mono ((hl1.trans hl2).trans hl26)) hC26.old d48 hx3) fun v11 w27 hv11 => ?_)
          obtain ⟨hv11, hb5⟩ := hv11
          have hl27 := Le.no M1 hb5
          have hC27 := hC26.no hb5
          obtain rfl := vbool_eq hv11
          refine lw_on rfl rfl rfl rfl rfl rfl (ow_not rfl rfl ?_)
          refine lw_op rfl rfl rfl (ow_pickF rfl rfl rfl ?_)
          refine lw_nil ?_
          refine ew_then ?_
          replace hb2 := cond_some hb2
          rcases hb2 with ⟨hc3, hb2⟩ | ⟨hc3, hb2⟩
          · subst hc3
            refine cw_false rfl ?_
            refine cw_skip ?_
            refine ew_blockN ?_
            refine ew_then ?_
            refine cw_region ?_
            refine lw_op rfl rfl rfl (ow_move rfl rfl ?_)
            refine lw_op rfl rfl rfl (ow_add rfl rfl rfl ?_)
            refine lw_op rfl rfl rfl (ow_assign rfl rfl ?_)
            refine lw_nil ?_
            refine ew_nxt (W (k1 + 1)) hb2 fun a ha => ⟨M1, ?_, ((hl2.trans hl26).trans hl27), hC27⟩
            exact ha.sub ⟨rfl, rfl, trivial⟩
          · subst hc3
            refine cw_true rfl ?_
            refine cw_seq ?_
            refine cw_region ?_
            refine lw_op rfl rfl rfl (ow_assign rfl rfl ?_)
            refine lw_nil ?_
            refine ew_then ?_
            refine cw_ret ?_
            refine ew_blockR ?_
            refine ew_thenR ?_
            refine ew_thenR ?_
            refine ew_blockR ?_
            refine ew_brkR ?_
            refine ew_thenR ?_
            have e4 := hR1 _ (Option.some.inj hb2).symm
            subst e4
            obtain rfl := Option.some.inj h
            exact ew_ret (res1 rfl (.tmp rfl)) ⟨_, rfl, ((vbool _)), hC27.bx⟩
    · obtain rfl := hbb1.trans hc1
      refine cw_false rfl ?_
      refine cw_exit ?_
      refine ew_thenX ?_
      refine ew_thenX ?_
      refine ew_blockX ?_
      refine ew_brk k1 hb2 fun a ha => ⟨M1, ?_, hl2, hC2⟩
      exact ha.sub ⟨rfl, rfl, trivial⟩
  · rintro k2 a w28 hlr2 ⟨M2, hF2, hl28, hC28⟩
    subst hlr2
    refine ew_at (E := [(1, (.pointer (some p1))), (3, (.int .i64 k2))]) hF2 ?_
    refine ew_then ?_
    refine cw_seq ?_
    refine cw_region ?_
    refine lw_op rfl rfl rfl (ow_fieldAddr rfl rfl Tryd.underlying24 rfl (Tryd.sizeOf22 _) ?_)
    refine lw_op rfl rfl rfl (ow_load (R := (RSlice (RSlice RSpan))) rfl rfl (ARep.mono hl28 (hp1.fld fld_Box_Sides)) (Tryd.sizeOf22 _) (Tryd.isAgg22 _) fun v13 hv13 => ?_)
    refine lw_op rfl rfl rfl (ow_len rfl rfl hv13 Tryd.underlying22 rfl ?_)
    refine lw_op rfl rfl rfl (ow_eqlI rfl rfl rfl fun bb5 hbb5 => ?_)
    refine lw_op rfl rfl rfl (ow_assign rfl rfl ?_)
    refine lw_nil ?_
    refine ew_then ?_
    refine cw_ret ?_
    obtain rfl := Option.some.inj h
    exact ew_ret (res1 rfl (.tmp rfl)) ⟨_, rfl, ((vbool_of hbb5)), hC28.bx⟩

theorem w_spec_PacketValid {w : World} {M : Nat → Prop} (hG : ARep (RArr 4 RShape) w M shapes ⟨0, 0, none⟩) (hO : ∀ b, M b → b < w.heap.size) {v0p : Value} {a_p : Packet} (h0 : VRep RPacket w M a_p v0p) {r : Bool} (h : F.spec_PacketValid a_p = some r) :
    Calls Tryd.prog 29 [v0p].toArray w fun e w' => ∃ v, e = .returned v ∧ VRep RBool w' M r v ∧ BX No w w' := by
  have hC : Cx No w M w M := Cx.start hO (fun _ e => e.elim)
  refine walk (N := 21) Tryd.func29 rfl Tryd.ntmps29 rfl ?_
  refine cw_seq ?_
  refine cw_region ?_
  refine lw_op rfl rfl rfl (ow_box (R := RPacket) rfl rfl h0 hC fun p1 w1 hp1 hb1 hl1 hC1 => ?_)
  refine lw_op rfl rfl rfl (ow_assign rfl rfl ?_)
  refine lw_nil ?_
  refine ew_then ?_
  refine cw_seq ?_
  refine cw_region ?_
  refine lw_op rfl rfl rfl (ow_fieldAddr rfl rfl Tryd.underlying38 rfl (Tryd.sizeOf3 _) ?_)
  refine lw_op rfl rfl rfl (ow_load (R := RInt) rfl rfl (hp1.fld fld_Packet_From) (Tryd.sizeOf3 _) (Tryd.isAgg3 _) fun v1 hv1 => ?_)
  obtain rfl := vint_eq hv1
  replace h := bind_some h
  obtain ⟨x1, hx1, h⟩ := h
  refine lw_op rfl rfl rfl (ow_call rfl rfl Tryd.call84 (w_spec_l1In (hG.mono hl1) hC1.old hx1) fun v2 w2 hv2 => ?_)
  obtain ⟨hv2, hb2⟩ := hv2
  have hl2 := Le.no M hb2
  have hC2 := hC1.no hb2
  obtain rfl := vbool_eq hv2
  refine lw_op rfl rfl rfl (ow_move rfl rfl ?_)
  replace h := cond_some h
  rcases h with ⟨hc1, h⟩ | ⟨hc1, h⟩
  · subst hc1
    refine lw_on rfl rfl rfl rfl rfl rfl (ow_fieldAddr rfl rfl Tryd.underlying38 rfl (Tryd.sizeOf3 _) ?_)
    refine lw_on rfl rfl rfl rfl rfl rfl (ow_load (R := RInt) rfl rfl (ARep.mono hl2 (hp1.fld fld_Packet_To)) (Tryd.sizeOf3 _) (Tryd.isAgg3 _) fun v3 hv3 => ?_)
    obtain rfl := vint_eq hv3
    replace h := bind_some h
    obtain ⟨x2, hx2, h⟩ := h
    refine lw_on rfl rfl rfl rfl rfl rfl (ow_call rfl rfl Tryd.call84 (w_spec_l1In (hG.mono (hl1.trans hl2)) hC2.old hx2) fun v4 w3 hv4 => ?_)
    obtain ⟨hv4, hb3⟩ := hv4
    have hl3 := Le.no M hb3
    have hC3 := hC2.no hb3
    obtain rfl := vbool_eq hv4
    refine lw_op rfl rfl rfl (ow_pickT rfl rfl rfl ?_)
    refine lw_op rfl rfl rfl (ow_move rfl rfl ?_)
    replace h := cond_some h
    rcases h with ⟨hc2, h⟩ | ⟨hc2, h⟩
    · subst hc2
      refine lw_on rfl rfl rfl rfl rfl rfl (ow_fieldAddr rfl rfl Tryd.underlying38 rfl (Tryd.sizeOf3 _) ?_)
      refine lw_on rfl rfl rfl rfl rfl rfl (ow_load (R := RInt) rfl rfl (ARep.mono (hl2.trans hl3) (hp1.fld fld_Packet_Port)) (Tryd.sizeOf3 _) (Tryd.isAgg3 _) fun v5 hv5 => ?_)
      obtain rfl := vint_eq hv5
      replace h := bind_some h
      obtain ⟨x3, hx3, h⟩ := h
      refine lw_on rfl rfl rfl rfl rfl rfl (ow_call rfl rfl Tryd.call84 (w_spec_l1In (hG.mono ((hl1.trans hl2).trans hl3)) hC3.old hx3) fun v6 w4 hv6 => ?_)
      obtain ⟨hv6, hb4⟩ := hv6
      have hl4 := Le.no M hb4
      have hC4 := hC3.no hb4
      obtain rfl := vbool_eq hv6
      refine lw_op rfl rfl rfl (ow_pickT rfl rfl rfl ?_)
      refine lw_op rfl rfl rfl (ow_move rfl rfl ?_)
      replace h := cond_some h
      rcases h with ⟨hc3, h⟩ | ⟨hc3, h⟩
      · subst hc3
        refine lw_on rfl rfl rfl rfl rfl rfl (ow_fieldAddr rfl rfl Tryd.underlying38 rfl (Tryd.sizeOf3 _) ?_)
        refine lw_on rfl rfl rfl rfl rfl rfl (ow_load (R := RInt) rfl rfl (ARep.mono ((hl2.trans hl3).trans hl4) (hp1.fld fld_Packet_Proto)) (Tryd.sizeOf3 _) (Tryd.isAgg3 _) fun v7 hv7 => ?_)
        obtain rfl := vint_eq hv7
        replace h := bind_some h
        obtain ⟨x4, hx4, h⟩ := h
        refine lw_on rfl rfl rfl rfl rfl rfl (ow_call rfl rfl Tryd.call84 (w_spec_l1In (hG.mono (((hl1.trans hl2).trans hl3).trans hl4)) hC4.old hx4) fun v8 w5 hv8 => ?_)
        obtain ⟨hv8, hb5⟩ := hv8
        have hl5 := Le.no M hb5
        have hC5 := hC4.no hb5
        obtain rfl := vbool_eq hv8
        refine lw_op rfl rfl rfl (ow_pickT rfl rfl rfl ?_)
        refine lw_op rfl rfl rfl (ow_assign rfl rfl ?_)
        refine lw_nil ?_
        refine ew_then ?_
        refine cw_ret ?_
        obtain rfl := Option.some.inj h
        exact ew_ret (res1 rfl (.tmp rfl)) ⟨_, rfl, ((vbool _)), hC5.bx⟩
      · subst hc3
        refine lw_off rfl rfl rfl rfl rfl rfl ?_
        refine lw_off rfl rfl rfl rfl rfl rfl ?_
        refine lw_off rfl rfl rfl rfl rfl rfl ?_
        refine lw_op rfl rfl rfl (ow_pickF rfl rfl rfl ?_)
        refine lw_op rfl rfl rfl (ow_assign rfl rfl ?_)
        refine lw_nil ?_
        refine ew_then ?_
        refine cw_ret ?_
        obtain rfl := Option.some.inj h
        exact ew_ret (res1 rfl (.tmp rfl)) ⟨_, rfl, ((vbool _)), hC4.bx⟩
    · subst hc2
      refine lw_off rfl rfl rfl rfl rfl rfl ?_
      refine lw_off rfl rfl rfl rfl rfl rfl ?_
      refine lw_off rfl rfl rfl rfl rfl rfl ?_
      refine lw_op rfl rfl rfl (ow_pickF rfl rfl rfl ?_)
      refine lw_op rfl rfl rfl (ow_move rfl rfl ?_)
      refine lw_off rfl rfl rfl rfl rfl rfl ?_
      refine lw_off rfl rfl rfl rfl rfl rfl ?_
      refine lw_off rfl rfl rfl rfl rfl rfl ?_
      refine lw_op rfl rfl rfl (ow_pickF rfl rfl rfl ?_)
      refine lw_op rfl rfl rfl (ow_assign rfl rfl ?_)
      refine lw_nil ?_
      refine ew_then ?_
      refine cw_ret ?_
      obtain rfl := Option.some.inj h
      exact ew_ret (res1 rfl (.tmp rfl)) ⟨_, rfl, ((vbool _)), hC3.bx⟩
  · subst hc1
    refine lw_off rfl rfl rfl rfl rfl rfl ?_
    refine lw_off rfl rfl rfl rfl rfl rfl ?_
    refine lw_off rfl rfl rfl rfl rfl rfl ?_
    refine lw_op rfl rfl rfl (ow_pickF rfl rfl rfl ?_)
    refine lw_op rfl rfl rfl (ow_move rfl rfl ?_)
    refine lw_off rfl rfl rfl rfl rfl rfl ?_
    refine lw_off rfl rfl rfl rfl rfl rfl ?_
    refine lw_off rfl rfl rfl rfl rfl rfl ?_
    refine lw_op rfl rfl rfl (ow_pickF rfl rfl rfl ?_)
    refine lw_op rfl rfl rfl (ow_move rfl rfl ?_)
    refine lw_off rfl rfl rfl rfl rfl rfl ?_
    refine lw_off rfl rfl rfl rfl rfl rfl ?_
    refine lw_off rfl rfl rfl rfl rfl rfl ?_
    refine lw_op rfl rfl rfl (ow_pickF rfl rfl rfl ?_)
    refine lw_op rfl rfl rfl (ow_assign rfl rfl ?_)
    refine lw_nil ?_
    refine ew_then ?_
    refine cw_ret ?_
    obtain rfl := Option.some.inj h
    exact ew_ret (res1 rfl (.tmp rfl)) ⟨_, rfl, ((vbool _)), hC2.bx⟩

theorem w_spec_SpansHave {w : World} {M : Nat → Prop} (hG : ARep (RArr 4 RShape) w M shapes ⟨0, 0, none⟩) (hO : ∀ b, M b → b < w.heap.size) {v0p : Value} {a_list : List Span} (h0 : VRep (RSlice RSpan) w M a_list v0p) {a_n : Int} {r : Bool} (h : F.spec_SpansHave a_list a_n = some r) :
    Calls Tryd.prog 101 [v0p, (.int .i64 a_n)].toArray w fun e w' => ∃ v, e = .returned v ∧ VRep RBool w' M r v ∧ BX No w w' := by
  have hC : Cx No w M w M := Cx.start hO (fun _ e => e.elim)
  refine walk (N := 24) Tryd.func101 rfl Tryd.ntmps101 rfl ?_
  refine cw_seq ?_
  refine cw_region ?_
  refine lw_op rfl rfl rfl (ow_assign rfl rfl ?_)
  refine lw_nil ?_
  refine ew_then ?_
  refine cw_seq ?_
  refine cw_seq ?_
  refine cw_region ?_
  refine lw_op rfl rfl rfl (ow_assign rfl rfl ?_)
  refine lw_nil ?_
  refine ew_then ?_
  replace h := bind_some h
  obtain ⟨lr1, hlr1, h⟩ := h
  refine cw_for hlr1 (fun s a w' => ∃ (M' : Nat → Prop), Fits 24 [(0, v0p), (1, (.int .i64 a_n)), (5, (.int .i64 s))] a ∧ Le w M w' M' ∧ Cx No w M w' M') ?_ ?_ ?_
  · intro a ha
    exact ⟨M, ha.sub ⟨rfl, rfl, rfl, trivial⟩, Le.refl _ _, hC⟩
  · rintro k1 a w1 sr1 ⟨M1, hF1, hl1, hC1⟩ hb1 hR1
    refine cw_at (E := [(0, v0p), (1, (.int .i64 a_n)), (5, (.int .i64 k1))]) hF1 ?_
    refine cw_seq ?_
    refine cw_seq ?_
    refine cw_region ?_
    refine lw_op rfl rfl rfl (ow_move rfl rfl ?_)
    refine lw_op rfl rfl rfl (ow_move rfl rfl ?_)
    refine lw_op rfl rfl rfl (ow_len rfl rfl (VRep.mono hl1 h0) Tryd.underlying93 rfl ?_)
    refine lw_op rfl rfl rfl (ow_lss rfl rfl rfl fun bb1 hbb1 => ?_)
    refine lw_nil ?_
    refine ew_then ?_
    replace hb1 := cond_some hb1
    rcases hb1 with ⟨hc1, hb1⟩ | ⟨hc1, hb1⟩
    · obtain rfl := hbb1.trans hc1
      refine cw_true rfl ?_
      refine cw_skip ?_
      refine ew_then ?_
      refine cw_seq ?_
      refine cw_block ?_
      refine cw_seq ?_
      replace hb1 := bind_some hb1
      obtain ⟨x1, hx1, hb1⟩ := hb1
      refine cw_sub (E' := [(0, v0p), (1, (.int .i64 a_n)), (5, (.int .i64 k1))]) ⟨rfl, rfl, rfl, trivial⟩ ?_
      refine cw_drawQ 11 [PEq (.int .i64 a_n), PV (RSlice RSpan) M1 a_list, PEq (.int .i64 k1), PA RSpan M1 x1, PA RInt M1 x1.Lo, PEq (.int .i64 x1.Lo), PV (RSlice RSpan) M1 a_list, PEq (.int .i64 k1), PA RSpan M1 x1, PA RInt M1 x1.Hi, PEq (.int .i64 x1.Hi)] (by kernel_rfl) rfl (by kernel_rfl) ⟨PEq.mono _, PV.mono _ _ _, PEq.mono _, PA.mono _ _ _, PA.mono _ _ _, PEq.mono _, PV.mono _ _ _, PEq.mono _, PA.mono _ _ _, PA.mono _ _ _, PEq.mono _, trivial⟩ ⟨?_, ?_, ?_, ?_, ?_, ?_, ?_, ?_, ?_, ?_, ?_, trivial⟩ ?_
      · intro w2 D hS1 hd1
        have hl2 := Le.no M1 hS1
        have hC2 := hC1.no hS1
        refine dg_sub (E' := [(1, (.int .i64 a_n))]) ⟨rfl, trivial⟩ ?_
        refine dg_plain rfl (ow_move rfl rfl ?_)
        exact ⟨BX.refl _ _, rfl⟩
      · intro w3 D hS2 hd2
        have hl3 := Le.no M1 hS2
        have hC3 := hC1.no hS2
        refine dg_sub (E' := [(0, v0p)]) ⟨rfl, trivial⟩ ?_
        refine dg_plain rfl (ow_move rfl rfl ?_)
        exact ⟨BX.refl _ _, (VRep.mono (hl1.trans hl3) h0)⟩
      · intro w4 D hS3 hd3
        have hl4 := Le.no M1 hS3
        have hC4 := hC1.no hS3
        refine dg_sub (E' := [(5, (.int .i64 k1))]) ⟨rfl, trivial⟩ ?_
        refine dg_plain rfl (ow_move rfl rfl ?_)
        exact ⟨BX.refl _ _, rfl⟩
      · intro w5 D hS4 hd4
        have hl5 := Le.no M1 hS4
        have hC5 := hC1.no hS4
        have hd4 : PV (RSlice RSpan) M1 a_list (D 1) w5 ∧ PEq (.int .i64 k1) (D 2) w5 ∧ True := hd4
        obtain ⟨d1, d2, -⟩ := hd4
        obtain ⟨v4, hq1⟩ : ∃ v, (D 1) = v := ⟨_, rfl⟩
        rw [hq1] at d1
        refine dg_sub (E' := [(13, v4), (14, (.int .i64 k1))]) ⟨(congrArg some hq1), (congrArg some d2), trivial⟩ ?_
        refine dg_plain rfl (ow_indexSlice (R := RSpan) rfl rfl rfl d1 Tryd.underlying93 (Tryd.sizeOf92 _) hx1 fun p3 hp3 => ?_)
        exact ⟨BX.refl _ _, ⟨_, rfl, hp3⟩⟩
      · intro w6 D hS5 hd5
        have hl6 := Le.no M1 hS5
        have hC6 := hC1.no hS5
        have hd5 : PA RSpan M1 x1 (D 3) w6 ∧ True := hd5
        obtain ⟨d3, -⟩ := hd5
        obtain ⟨p4, e1, ha1⟩ := d3
        refine dg_sub (E' := [(15, (.pointer (some p4)))]) ⟨(congrArg some e1), trivial⟩ ?_
        refine dg_plain rfl (ow_fieldAddr rfl rfl Tryd.underlying92 rfl (Tryd.sizeOf3 _) ?_)
        exact ⟨BX.refl _ _, ⟨_, rfl, (ha1.fld fld_Span_Lo)⟩⟩
      · intro w7 D hS6 hd6
        have hl7 := Le.no M1 hS6
        have hC7 := hC1.no hS6
        have hd6 : PA RInt M1 x1.Lo (D 4) w7 ∧ True := hd6
        obtain ⟨d4, -⟩ := hd6
        obtain ⟨p5, e2, ha2⟩ := d4
        refine dg_sub (E' := [(16, (.pointer (some p5)))]) ⟨(congrArg some e2), trivial⟩ ?_
        refine dg_plain rfl (ow_load (R := RInt) rfl rfl ha2 (Tryd.sizeOf3 _) (Tryd.isAgg3 _) fun v5 hv5 => ?_)
        obtain rfl := vint_eq hv5
        exact ⟨BX.refl _ _, rfl⟩
      · intro w8 D hS7 hd7
        have hl8 := Le.no M1 hS7
        have hC8 := hC1.no hS7
        refine dg_sub (E' := [(0, v0p)]) ⟨rfl, trivial⟩ ?_
        refine dg_plain rfl (ow_move rfl rfl ?_)
        exact ⟨BX.refl _ _, (VRep.mono (hl1.trans hl8) h0)⟩
      · intro w9 D hS8 hd8
        have hl9 := Le.no M1 hS8
        have hC9 := hC1.no hS8
        refine dg_sub (E' := [(5, (.int .i64 k1))]) ⟨rfl, trivial⟩ ?_
        refine dg_plain rfl (ow_move rfl rfl ?_)
        exact ⟨BX.refl _ _, rfl⟩
      · intro w10 D hS9 hd9
        have hl10 := Le.no M1 hS9
        have hC10 := hC1.no hS9
        have hd9 : PV (RSlice RSpan) M1 a_list (D 6) w10 ∧ PEq (.int .i64 k1) (D 7) w10 ∧ True := hd9
        obtain ⟨d5, d6, -⟩ := hd9
        obtain ⟨v6, hq2⟩ : ∃ v, (D 6) = v := ⟨_, rfl⟩
        rw [hq2] at d5
        refine dg_sub (E' := [(18, v6), (19, (.int .i64 k1))]) ⟨(congrArg some hq2), (congrArg some d6), trivial⟩ ?_
        refine dg_plain rfl (ow_indexSlice (R := RSpan) rfl rfl rfl d5 Tryd.underlying93 (Tryd.sizeOf92 _) hx1 fun p6 hp6 => ?_)
        exact ⟨BX.refl _ _, ⟨_, rfl, hp6⟩⟩
      · intro w11 D hS10 hd10
        have hl11 := Le.no M1 hS10
        have hC11 := hC1.no hS10
        have hd10 : PA RSpan M1 x1 (D 8) w11 ∧ True := hd10
        obtain ⟨d7, -⟩ := hd10
        obtain ⟨p7, e3, ha3⟩ := d7
        refine dg_sub (E' := [(20, (.pointer (some p7)))]) ⟨(congrArg some e3), trivial⟩ ?_
        refine dg_plain rfl (ow_fieldAddr rfl rfl Tryd.underlying92 rfl (Tryd.sizeOf3 _) ?_)
        exact ⟨BX.refl _ _, ⟨_, rfl, (ha3.fld fld_Span_Hi)⟩⟩
      · intro w12 D hS11 hd11
        have hl12 := Le.no M1 hS11
        have hC12 := hC1.no hS11
        have hd11 : PA RInt M1 x1.Hi (D 9) w12 ∧ True := hd11
        obtain ⟨d8, -⟩ := hd11
        obtain ⟨p8, e4, ha4⟩ := d8
        refine dg_sub (E' := [(21, (.pointer (some p8)))]) ⟨(congrArg some e4), trivial⟩ ?_
        refine dg_plain rfl (ow_load (R := RInt) rfl rfl ha4 (Tryd.sizeOf3 _) (Tryd.isAgg3 _) fun v7 hv7 => ?_)
        obtain rfl := vint_eq hv7
        exact ⟨BX.refl _ _, rfl⟩
      · intro w13 D hS12 hd12
        have hl13 := Le.no M1 hS12
        have hC13 := hC1.no hS12
        have hd12 : PEq (.int .i64 a_n) (D 0) w13 ∧ PV (RSlice RSpan) M1 a_list (D 1) w13 ∧ PEq (.int .i64 k1) (D 2) w13 ∧ PA RSpan M1 x1 (D 3) w13 ∧ PA RInt M1 x1.Lo (D 4) w13 ∧ PEq (.int .i64 x1.Lo) (D 5) w13 ∧ PV (RSlice RSpan) M1 a_list (D 6) w13 ∧ PEq (.int .i64 k1) (D 7) w13 ∧ PA RSpan M1 x1 (D 8) w13 ∧ PA RInt M1 x1.Hi (D 9) w13 ∧ PEq (.int .i64 x1.Hi) (D 10) w13 ∧ True := hd12
        obtain ⟨d9, -, -, -, -, d14, -, -, -, -, d19, -⟩ := hd12
        refine lw_sub (E' := [(12, (.int .i64 a_n)), (17, (.int .i64 x1.Lo)), (22, (.int .i64 x1.Hi)), (0, v0p), (1, (.int .i64 a_n)), (5, (.int .i64 k1))]) ⟨(congrArg some d9), (congrArg some d14), (congrArg some d19), rfl, rfl, rfl, trivial⟩ ?_
        replace hb1 := bind_some hb1
        obtain ⟨x2, hx2, hb1⟩ := hb1
        refine lw_op rfl rfl rfl (ow_call rfl rfl Tryd.call84 (w_spec_l1In (hG.mono (hl1.trans hl13)) hC13.old hx2) fun v8 w14 hv8 => ?_)
        obtain ⟨hv8, hb2⟩ := hv8
        have hl14 := Le.no M1 hb2
        have hC14 := hC13.no hb2
        obtain rfl := vbool_eq hv8
        refine lw_nil ?_
        refine ew_then ?_
        replace hb1 := cond_some hb1
        rcases hb1 with ⟨hc2, hb1⟩ | ⟨hc2, hb1⟩
        · subst hc2
          refine cw_true rfl ?_
          refine cw_seq ?_
          refine cw_region ?_
          refine lw_op rfl rfl rfl (ow_assign rfl rfl ?_)
          refine lw_nil ?_
          refine ew_then ?_
          refine cw_ret ?_
          refine ew_blockR ?_
          refine ew_thenR ?_
          refine ew_thenR ?_
          refine ew_blockR ?_
          refine ew_brkR ?_
          refine ew_thenR ?_
          have e5 := hR1 _ (Option.some.inj hb1).symm
          subst e5
          obtain rfl := Option.some.inj h
          exact ew_ret (res1 rfl (.tmp rfl)) ⟨_, rfl, ((vbool _)), hC14.bx⟩
        · subst hc2
          refine cw_false rfl ?_
          refine cw_skip ?_
          refine ew_blockN ?_
          refine ew_then ?_
          refine cw_region ?_
          refine lw_op rfl rfl rfl (ow_move rfl rfl ?_)
          refine lw_op rfl rfl rfl (ow_add rfl rfl rfl ?_)
          refine lw_op rfl rfl rfl (ow_assign rfl rfl ?_)
          refine lw_nil ?_
          refine ew_nxt (W (k1 + 1)) hb1 fun a ha => ⟨M1, ?_, ((hl1.trans hl13).trans hl14), hC14⟩
          exact ha.sub ⟨rfl, rfl, rfl, trivial⟩
    · obtain rfl := hbb1.trans hc1
      refine cw_false rfl ?_
      refine cw_exit ?_
      refine ew_thenX ?_
      refine ew_thenX ?_
      refine ew_blockX ?_
      refine ew_brk k1 hb1 fun a ha => ⟨M1, ?_, hl1, hC1⟩
      exact ha.sub ⟨rfl, rfl, rfl, trivial⟩
  · rintro k2 a w15 hlr2 ⟨M2, hF2, hl15, hC15⟩
    subst hlr2
    refine ew_at (E := [(0, v0p), (1, (.int .i64 a_n)), (5, (.int .i64 k2))]) hF2 ?_
    refine ew_then ?_
    refine cw_seq ?_
    refine cw_region ?_
    refine lw_op rfl rfl rfl (ow_assign rfl rfl ?_)
    refine lw_nil ?_
    refine ew_then ?_
    refine cw_ret ?_
    obtain rfl := Option.some.inj h
    exact ew_ret (res1 rfl (.tmp rfl)) ⟨_, rfl, ((vbool _)), hC15.bx⟩

theorem w_spec_PacketField {w : World} {M : Nat → Prop} (hG : ARep (RArr 4 RShape) w M shapes ⟨0, 0, none⟩) (hO : ∀ b, M b → b < w.heap.size) {v0p : Value} {a_p : Packet} (h0 : VRep RPacket w M a_p v0p) {a_n : Int} {r : Int} (h : F.spec_PacketField a_p a_n = some r) :
    Calls Tryd.prog 102 [v0p, (.int .i64 a_n)].toArray w fun e w' => ∃ v, e = .returned v ∧ VRep RInt w' M r v ∧ BX No w w' := by
  have hC : Cx No w M w M := Cx.start hO (fun _ e => e.elim)
  refine walk (N := 25) Tryd.func102 rfl Tryd.ntmps102 rfl ?_
  refine cw_seq ?_
  refine cw_region ?_
  refine lw_op rfl rfl rfl (ow_box (R := RPacket) rfl rfl h0 hC fun p1 w1 hp1 hb1 hl1 hC1 => ?_)
  refine lw_op rfl rfl rfl (ow_assign rfl rfl ?_)
  refine lw_nil ?_
  refine ew_then ?_
  refine cw_seq ?_
  refine cw_seq ?_
  refine cw_region ?_
  refine lw_op rfl rfl rfl (ow_load (R := RPacket) rfl rfl hp1 (Tryd.sizeOf38 _) (Tryd.isAgg38 _) fun v1 hv1 => ?_)
  replace h := bind_some h
  obtain ⟨x1, hx1, h⟩ := h
  refine lw_op rfl rfl rfl (ow_call rfl rfl Tryd.call29 (w_spec_PacketValid (hG.mono hl1) hC1.old hv1 hx1) fun v2 w2 hv2 => ?_)
  obtain ⟨hv2, hb2⟩ := hv2
  have hl2 := Le.no M hb2
  have hC2 := hC1.no hb2
  obtain rfl := vbool_eq hv2
  refine lw_op rfl rfl rfl (ow_not rfl rfl ?_)
  refine lw_op rfl rfl rfl (ow_move rfl rfl ?_)
  replace h := cond_some h
  rcases h with ⟨hc1, h⟩ | ⟨hc1, h⟩
  · subst hc1
    refine lw_on rfl rfl rfl rfl rfl rfl (ow_move rfl rfl ?_)
    replace h := bind_some h
    obtain ⟨x2, hx2, h⟩ := h
    refine lw_on rfl rfl rfl rfl rfl rfl (ow_call rfl rfl Tryd.call84 (w_spec_l1In (hG.mono (hl1.trans hl2)) hC2.old hx2) fun v3 w3 hv3 => ?_)
    obtain ⟨hv3, hb3⟩ := hv3
    have hl3 := Le.no M hb3
    have hC3 := hC2.no hb3
    obtain rfl := vbool_eq hv3
    refine lw_on rfl rfl rfl rfl rfl rfl (ow_not rfl rfl ?_)
    refine lw_op rfl rfl rfl (ow_pickF rfl rfl rfl ?_)
    refine lw_nil ?_
    refine ew_then ?_
    replace h := cond_some h
    rcases h with ⟨hc2, h⟩ | ⟨hc2, h⟩
    · subst hc2
      refine cw_false rfl ?_
      refine cw_skip ?_
      refine ew_then ?_
      refine cw_seq ?_
      refine cw_region ?_
      refine lw_op rfl rfl rfl (ow_fieldAddr rfl rfl Tryd.underlying38 rfl (Tryd.sizeOf3 _) ?_)
      refine lw_op rfl rfl rfl (ow_load (R := RInt) rfl rfl (ARep.mono (hl2.trans hl3) (hp1.fld fld_Packet_From)) (Tryd.sizeOf3 _) (Tryd.isAgg3 _) fun v4 hv4 => ?_)
      obtain rfl := vint_eq hv4
      refine lw_op rfl rfl rfl (ow_fieldAddr rfl rfl Tryd.underlying38 rfl (Tryd.sizeOf3 _) ?_)
      refine lw_op rfl rfl rfl (ow_load (R := RInt) rfl rfl (ARep.mono (hl2.trans hl3) (hp1.fld fld_Packet_To)) (Tryd.sizeOf3 _) (Tryd.isAgg3 _) fun v5 hv5 => ?_)
      obtain rfl := vint_eq hv5
      refine lw_op rfl rfl rfl (ow_fieldAddr rfl rfl Tryd.underlying38 rfl (Tryd.sizeOf3 _) ?_)
      refine lw_op rfl rfl rfl (ow_load (R := RInt) rfl rfl (ARep.mono (hl2.trans hl3) (hp1.fld fld_Packet_Port)) (Tryd.sizeOf3 _) (Tryd.isAgg3 _) fun v6 hv6 => ?_)
      obtain rfl := vint_eq hv6
      refine lw_op rfl rfl rfl (ow_fieldAddr rfl rfl Tryd.underlying38 rfl (Tryd.sizeOf3 _) ?_)
      refine lw_op rfl rfl rfl (ow_load (R := RInt) rfl rfl (ARep.mono (hl2.trans hl3) (hp1.fld fld_Packet_Proto)) (Tryd.sizeOf3 _) (Tryd.isAgg3 _) fun v7 hv7 => ?_)
      obtain rfl := vint_eq hv7
      refine lw_op rfl rfl rfl (ow_buildSlice (R := RInt) (xs := [a_p.From, a_p.To, a_p.Port, a_p.Proto]) (cs := #[(.int .i64 a_p.From), (.int .i64 a_p.To), (.int .i64 a_p.Port), (.int .i64 a_p.Proto)]) (e := 3) rfl rfl (by kernel_rfl) rfl rfl ⟨_, _, rfl, (vint _).cells, _, _, rfl, (vint _).cells, _, _, rfl, (vint _).cells, _, _, rfl, (vint _).cells, rfl⟩ hC3 fun p2 w4 hw1 hb4 hl4 hC4 => ?_)
      refine lw_op rfl rfl rfl (ow_move rfl rfl ?_)
      replace h := bind_some h
      obtain ⟨x3, hx3, h⟩ := h
      refine lw_op rfl rfl rfl (ow_indexSlice (R := RInt) rfl rfl rfl hw1 Tryd.underlying122 (Tryd.sizeOf3 _) hx3 fun p3 hp3 => ?_)
      refine lw_op rfl rfl rfl (ow_load (R := RInt) rfl rfl hp3 (Tryd.sizeOf3 _) (Tryd.isAgg3 _) fun v8 hv8 => ?_)
      obtain rfl := vint_eq hv8
      refine lw_op rfl rfl rfl (ow_assign rfl rfl ?_)
      refine lw_nil ?_
      refine ew_then ?_
      refine cw_ret ?_
      obtain rfl := Option.some.inj h
      exact ew_ret (res1 rfl (.tmp rfl)) ⟨_, rfl, ((vint _)), hC4.bx⟩
    · subst hc2
      refine cw_true rfl ?_
      refine cw_seq ?_
      refine cw_region ?_
      refine lw_op rfl rfl rfl (ow_assign rfl rfl ?_)
      refine lw_nil ?_
      refine ew_then ?_
      refine cw_ret ?_
      refine ew_thenR ?_
      obtain rfl := Option.some.inj h
      exact ew_ret (res1 rfl (.tmp rfl)) ⟨_, rfl, ((vint _)), hC3.bx⟩
  · subst hc1
    refine lw_off rfl rfl rfl rfl rfl rfl ?_
    refine lw_off rfl rfl rfl rfl rfl rfl ?_
    refine lw_off rfl rfl rfl rfl rfl rfl ?_
    refine lw_op rfl rfl rfl (ow_pickT rfl rfl rfl ?_)
    refine lw_nil ?_
    refine ew_then ?_
    refine cw_true rfl ?_
    refine cw_seq ?_
    refine cw_region ?_
    refine lw_op rfl rfl rfl (ow_assign rfl rfl ?_)
    refine lw_nil ?_
    refine ew_then ?_
    refine cw_ret ?_
    refine ew_thenR ?_
    obtain rfl := Option.some.inj h
    exact ew_ret (res1 rfl (.tmp rfl)) ⟨_, rfl, ((vint _)), hC2.bx⟩

theorem w_spec_BoxHas {w : World} {M : Nat → Prop} (hG : ARep (RArr 4 RShape) w M shapes ⟨0, 0, none⟩) (hO : ∀ b, M b → b < w.heap.size) {v0p : Value} {a_b : Box} (h0 : VRep RBox w M a_b v0p) {v1p : Value} {a_p : Packet} (h1 : VRep RPacket w M a_p v1p) {r : Bool} (h : F.spec_BoxHas a_b a_p = some r) :
    Calls Tryd.prog 51 [v0p, v1p].toArray w fun e w' => ∃ v, e = .returned v ∧ VRep RBool w' M r v ∧ BX No w w' := by
  have hC : Cx No w M w M := Cx.start hO (fun _ e => e.elim)
  refine walk (N := 28) Tryd.func51 rfl Tryd.ntmps51 rfl ?_
  refine cw_seq ?_
  refine cw_region ?_
  refine lw_op rfl rfl rfl (ow_box (R := RBox) rfl rfl h0 hC fun p1 w1 hp1 hb1 hl1 hC1 => ?_)
  refine lw_op rfl rfl rfl (ow_box (R := RPacket) rfl rfl (VRep.mono hl1 h1) hC1 fun p2 w2 hp2 hb2 hl2 hC2 => ?_)
  refine lw_op rfl rfl rfl (ow_assign rfl rfl ?_)
  refine lw_nil ?_
  refine ew_then ?_
  refine cw_seq ?_
  refine cw_seq ?_
  refine cw_region ?_
  refine lw_op rfl rfl rfl (ow_load (R := RBox) rfl rfl (ARep.mono hl2 hp1) (Tryd.sizeOf24 _) (Tryd.isAgg24 _) fun v1 hv1 => ?_)
  replace h := bind_some h
  obtain ⟨x1, hx1, h⟩ := h
  refine lw_op rfl rfl rfl (ow_call rfl rfl Tryd.call21 (w_spec_BoxValid (hG.mono (hl1.trans hl2)) hC2.old hv1 hx1) fun v2 w3 hv2 => ?_)
  obtain ⟨hv2, hb3⟩ := hv2
  have hl3 := Le.no M hb3
  have hC3 := hC2.no hb3
  obtain rfl := vbool_eq hv2
  refine lw_op rfl rfl rfl (ow_not rfl rfl ?_)
  refine lw_op rfl rfl rfl (ow_move rfl rfl ?_)
  replace h := cond_some h
  rcases h with ⟨hc1, h⟩ | ⟨hc1, h⟩
  · subst hc1
    refine lw_on rfl rfl rfl rfl rfl rfl (ow_load (R := RPacket) rfl rfl (ARep.mono hl3 hp2) (Tryd.sizeOf38 _) (Tryd.isAgg38 _) fun v3 hv3 => ?_)
    replace h := bind_some h
    obtain ⟨x2, hx2, h⟩ := h
    refine lw_on rfl rfl rfl rfl rfl rfl (ow_call rfl rfl Tryd.call29 (w_spec_PacketValid (hG.mono ((hl1.trans hl2).trans hl3)) hC3.old hv3 hx2) fun v4 w4 hv4 => ?_)
    obtain ⟨hv4, hb4⟩ := hv4
    have hl4 := Le.no M hb4
    have hC4 := hC3.no hb4
    obtain rfl := vbool_eq hv4
    refine lw_on rfl rfl rfl rfl rfl rfl (ow_not rfl rfl ?_)
    refine lw_op rfl rfl rfl (ow_pickF rfl rfl rfl ?_)
    refine lw_nil ?_
    refine ew_then ?_
    replace h := cond_some h
    rcases h with ⟨hc2, h⟩ | ⟨hc2, h⟩
    · subst hc2
      refine cw_false rfl ?_
      refine cw_skip ?_
      refine ew_then ?_
      refine cw_seq ?_
      refine cw_seq ?_
      refine cw_region ?_
      refine lw_op rfl rfl rfl (ow_assign rfl rfl ?_)
      refine lw_nil ?_
      refine ew_then ?_
      replace h := bind_some h
      obtain ⟨lr1, hlr1, h⟩ := h
      refine cw_for hlr1 (fun s a w' => ∃ (M' : Nat → Prop), Fits 28 [(2, (.pointer (some p1))), (3, (.pointer (some p2))), (5, (.int .i64 s))] a ∧ Le w4 M w' M' ∧ Cx No w M w' M') ?_ ?_ ?_
      · intro a ha
        exact ⟨M, ha.sub ⟨rfl, rfl, rfl, trivial⟩, Le.refl _ _, hC4⟩
      · rintro k1 a w5 sr1 ⟨M1, hF1, hl5, hC5⟩ hb5 hR1
        refine cw_at (E := [(2, (.pointer (some p1))), (3, (.pointer (some p2))), (5, (.int .i64 k1))]) hF1 ?_
        refine cw_seq ?_
        refine cw_seq ?_
        refine cw_region ?_
        refine lw_op rfl rfl rfl (ow_move rfl rfl ?_)
        refine lw_op rfl rfl rfl (ow_lss rfl rfl rfl fun bb1 hbb1 => ?_)
        refine lw_nil ?_
        refine ew_then ?_
        replace hb5 := cond_some hb5
        rcases hb5 with ⟨hc3, hb5⟩ | ⟨hc3, hb5⟩
        · obtain rfl := hbb1.trans hc3
          refine cw_true rfl ?_
          refine cw_skip ?_
          refine ew_then ?_
          refine cw_seq ?_
          refine cw_block ?_
          refine cw_seq ?_
          replace hb5 := bind_some hb5
          obtain ⟨x3, hx3, hb5⟩ := hb5
          replace hb5 := bind_some hb5
          obtain ⟨x4, hx4, hb5⟩ := hb5
          refine cw_sub (E' := [(2, (.pointer (some p1))), (3, (.pointer (some p2))), (5, (.int .i64 k1))]) ⟨rfl, rfl, rfl, trivial⟩ ?_
          refine cw_drawQ 8 [PA (RSlice (RSlice RSpan)) M1 a_b.Sides, PV (RSlice (RSlice RSpan)) M1 a_b.Sides, PEq (.int .i64 k1), PA (RSlice RSpan) M1 x3, PV (RSlice RSpan) M1 x3, PV RPacket M1 a_p, PEq (.int .i64 k1), PEq (.int .i64 x4)] (by kernel_rfl) rfl (by kernel_rfl) ⟨PA.mono _ _ _, PV.mono _ _ _, PEq.mono _, PA.mono _ _ _, PV.mono _ _ _, PV.mono _ _ _, PEq.mono _, PEq.mono _, trivial⟩ ⟨?_, ?_, ?_, ?_, ?_, ?_, ?_, ?_, trivial⟩ ?_
          · intro w7 D hS1 hd1
            have hl7 := Le.no M1 hS1
            have hC7 := hC5.no hS1
            refine dg_sub (E' := [(2, (.pointer (some p1)))]) ⟨rfl, trivial⟩ ?_
            refine dg_plain rfl (ow_fieldAddr rfl rfl Tryd.underlying24 rfl (Tryd.sizeOf22 _) ?_)
            exact ⟨BX.refl _ _, ⟨_, rfl, (ARep.mono ((((hl2.trans hl3).trans hl4).trans hl5).trans hl7) (hp1.fld fld_Box_Sides))⟩⟩
          · intro w8 D hS2 hd2
            have hl8 := Le.no M1 hS2
            have hC8 := hC5.no hS2
            have hd2 : PA (RSlice (RSlice RSpan)) M1 a_b.Sides (D 0) w8 ∧ True := hd2
            obtain ⟨d1, -⟩ := hd2
            obtain ⟨p4, e1, ha1⟩ := d1
            refine dg_sub (E' := [(18, (.pointer (some p4)))]) ⟨(congrArg some e1), trivial⟩ ?_
            refine dg_plain rfl (ow_load (R := (RSlice (RSlice RSpan))) rfl rfl ha1 (Tryd.sizeOf22 _) (Tryd.isAgg22 _) fun v10 hv10 => ?_)
            exact ⟨BX.refl _ _, hv10⟩
          · intro w9 D hS3 hd3
            have hl9 := Le.no M1 hS3
            have hC9 := hC5.no hS3
            refine dg_sub (E' := [(5, (.int .i64 k1))]) ⟨rfl, trivial⟩ ?_
            refine dg_plain rfl (ow_move rfl rfl ?_)
            exact ⟨BX.refl _ _, rfl⟩
          · intro w10 D hS4 hd4
            have hl10 := Le.no M1 hS4
            have hC10 := hC5.no hS4
            have hd4 : PV (RSlice (RSlice RSpan)) M1 a_b.Sides (D 1) w10 ∧ PEq (.int .i64 k1) (D 2) w10 ∧ True := hd4
            obtain ⟨d2, d3, -⟩ := hd4
            obtain ⟨v11, hq1⟩ : ∃ v, (D 1) = v := ⟨_, rfl⟩
            rw [hq1] at d2
            refine dg_sub (E' := [(19, v11), (20, (.int .i64 k1))]) ⟨(congrArg some hq1), (congrArg some d3), trivial⟩ ?_
            refine dg_plain rfl (ow_indexSlice (R := (RSlice RSpan)) rfl rfl rfl d2 Tryd.underlying22 (Tryd.sizeOf93 _) hx3 fun p5 hp5 => ?_)
            exact ⟨BX.refl _ _, ⟨_, rfl, hp5⟩⟩
          · intro w11 D hS5 hd5
            have hl11 := Le.no M1 hS5
            have hC11 := hC5.no hS5
            have hd5 : PA (RSlice RSpan) M1 x3 (D 3) w11 ∧ True := hd5
            obtain ⟨d4, -⟩ := hd5
            obtain ⟨p6, e2, ha2⟩ := d4
            refine dg_sub (E' := [(21, (.pointer (some p6)))]) ⟨(congrArg some e2), trivial⟩ ?_
            refine dg_plain rfl (ow_load (R := (RSlice RSpan)) rfl rfl ha2 (Tryd.sizeOf93 _) (Tryd.isAgg93 _) fun v12 hv12 => ?_)
            exact ⟨BX.refl _ _, hv12⟩
          · intro w12 D hS6 hd6
            have hl12 := Le.no M1 hS6
            have hC12 := hC5.no hS6
            refine dg_sub (E' := [(3, (.pointer (some p2)))]) ⟨rfl, trivial⟩ ?_
            refine dg_plain rfl (ow_load (R := RPacket) rfl rfl (ARep.mono (((hl3.trans hl4).trans hl5).trans hl12) hp2) (Tryd.sizeOf38 _) (Tryd.isAgg38 _) fun v13 hv13 => ?_)
            exact ⟨BX.refl _ _, hv13⟩
          · intro w13 D hS7 hd7
            have hl13 := Le.no M1 hS7
            have hC13 := hC5.no hS7
            refine dg_sub (E' := [(5, (.int .i64 k1))]) ⟨rfl, trivial⟩ ?_
            refine dg_plain rfl (ow_move rfl rfl ?_)
            exact ⟨BX.refl _ _, rfl⟩
          · intro w14 D hS8 hd8
            have hl14 := Le.no M1 hS8
            have hC14 := hC5.no hS8
            have hd8 : PV RPacket M1 a_p (D 5) w14 ∧ PEq (.int .i64 k1) (D 6) w14 ∧ True := hd8
            obtain ⟨d5, d6, -⟩ := hd8
            obtain ⟨v14, hq2⟩ : ∃ v, (D 5) = v := ⟨_, rfl⟩
            rw [hq2] at d5
            refine dg_sub (E' := [(23, v14), (24, (.int .i64 k1))]) ⟨(congrArg some hq2), (congrArg some d6), trivial⟩ ?_
            refine dg_plain rfl (ow_call rfl rfl Tryd.call102 (w_spec_PacketField (hG.mono (((((hl1.trans hl2).trans hl3).trans hl4).trans hl5).trans hl14)) hC14.old d5 hx4) fun v15 w15 hv15 => ?_)
            obtain ⟨hv15, hb7⟩ := hv15
            have hl15 := Le.no M1 hb7
            have hC15 := hC14.no hb7
            obtain rfl := vint_eq hv15
            exact ⟨hb7, rfl⟩
          · intro w16 D hS9 hd9
            have hl16 := Le.no M1 hS9
            have hC16 := hC5.no hS9
            have hd9 : PA (RSlice (RSlice RSpan)) M1 a_b.Sides (D 0) w16 ∧ PV (RSlice (RSlice RSpan)) M1 a_b.Sides (D 1) w16 ∧ PEq (.int .i64 k1) (D 2) w16 ∧ PA (RSlice RSpan) M1 x3 (D 3) w16 ∧ PV (RSlice RSpan) M1 x3 (D 4) w16 ∧ PV RPacket M1 a_p (D 5) w16 ∧ PEq (.int .i64 k1) (D 6) w16 ∧ PEq (.int .i64 x4) (D 7) w16 ∧ True := hd9
            obtain ⟨-, -, -, -, d11, -, -, d14, -⟩ := hd9
            obtain ⟨v16, hq3⟩ : ∃ v, (D 4) = v := ⟨_, rfl⟩
            rw [hq3] at d11
            refine lw_sub (E' := [(22, v16), (25, (.int .i64 x4)), (2, (.pointer (some p1))), (3, (.pointer (some p2))), (5, (.int .i64 k1))]) ⟨(congrArg some hq3), (congrArg some d14), rfl, rfl, rfl, trivial⟩ ?_
            replace hb5 := bind_some hb5
            obtain ⟨x5, hx5, hb5⟩ := hb5
            refine lw_op rfl rfl rfl (ow_call rfl rfl Tryd.call101 (w_spec_SpansHave (hG.mono (((((hl1.trans hl2).trans hl3).trans hl4).trans hl5).trans hl16)) hC16.old d11 hx5) fun v17 w17 hv17 => ?_)
            obtain ⟨hv17, hb8⟩ := hv17
            have hl17 := Le.no M1 hb8
            have hC17 := hC16.no hb8
            obtain rfl := vbool_eq hv17
            refine lw_op rfl rfl rfl (ow_not rfl rfl ?_)
            refine lw_nil ?_
            refine ew_then ?_
            replace hb5 := cond_some hb5
            rcases hb5 with ⟨hc4, hb5⟩ | ⟨hc4, hb5⟩
            · subst hc4
              refine cw_false rfl ?_
              refine cw_skip ?_
              refine ew_blockN ?_
              refine ew_then ?_
              refine cw_region ?_
              refine lw_op rfl rfl rfl (ow_move rfl rfl ?_)
              refine lw_op rfl rfl rfl (ow_add rfl rfl rfl ?_)
              refine lw_op rfl rfl rfl (ow_assign rfl rfl ?_)
              refine lw_nil ?_
              refine ew_nxt (W (k1 + 1)) hb5 fun a ha => ⟨M1, ?_, ((hl5.trans hl16).trans hl17), hC17⟩
              exact ha.sub ⟨rfl, rfl, rfl, trivial⟩
            · subst hc4
              refine cw_true rfl ?_
              refine cw_seq ?_
              refine cw_region ?_
              refine lw_op rfl rfl rfl (ow_assign rfl rfl ?_)
              refine lw_nil ?_
              refine ew_then ?_
              refine cw_ret ?_
              refine ew_blockR ?_
              refine ew_thenR ?_
              refine ew_thenR ?_
              refine ew_blockR ?_
              refine ew_brkR ?_
              refine ew_thenR ?_
              have e3 := hR1 _ (Option.some.inj hb5).symm
              subst e3
              obtain rfl := Option.some.inj h
              exact ew_ret (res1 rfl (.tmp rfl)) ⟨_, rfl, ((vbool _)), hC17.bx⟩
        · obtain rfl := hbb1.trans hc3
          refine cw_false rfl ?_
          refine cw_exit ?_
          refine ew_thenX ?_
          refine ew_thenX ?_
          refine ew_blockX ?_
          refine ew_brk k1 hb5 fun a ha => ⟨M1, ?_, hl5, hC5⟩
          exact ha.sub ⟨rfl, rfl, rfl, trivial⟩
      · rintro k2 a w18 hlr2 ⟨M2, hF2, hl18, hC18⟩
        subst hlr2
        refine ew_at (E := [(2, (.pointer (some p1))), (3, (.pointer (some p2))), (5, (.int .i64 k2))]) hF2 ?_
        refine ew_then ?_
        refine cw_seq ?_
        refine cw_region ?_
        refine lw_op rfl rfl rfl (ow_assign rfl rfl ?_)
        refine lw_nil ?_
        refine ew_then ?_
        refine cw_ret ?_
        obtain rfl := Option.some.inj h
        exact ew_ret (res1 rfl (.tmp rfl)) ⟨_, rfl, ((vbool _)), hC18.bx⟩
    · subst hc2
      refine cw_true rfl ?_
      refine cw_seq ?_
      refine cw_region ?_
      refine lw_op rfl rfl rfl (ow_assign rfl rfl ?_)
      refine lw_nil ?_
      refine ew_then ?_
      refine cw_ret ?_
      refine ew_thenR ?_
      obtain rfl := Option.some.inj h
      exact ew_ret (res1 rfl (.tmp rfl)) ⟨_, rfl, ((vbool _)), hC4.bx⟩
  · subst hc1
    refine lw_off rfl rfl rfl rfl rfl rfl ?_
    refine lw_off rfl rfl rfl rfl rfl rfl ?_
    refine lw_off rfl rfl rfl rfl rfl rfl ?_
    refine lw_op rfl rfl rfl (ow_pickT rfl rfl rfl ?_)
    refine lw_nil ?_
    refine ew_then ?_
    refine cw_true rfl ?_
    refine cw_seq ?_
    refine cw_region ?_
    refine lw_op rfl rfl rfl (ow_assign rfl rfl ?_)
    refine lw_nil ?_
    refine ew_then ?_
    refine cw_ret ?_
    refine ew_thenR ?_
    obtain rfl := Option.some.inj h
    exact ew_ret (res1 rfl (.tmp rfl)) ⟨_, rfl, ((vbool _)), hC3.bx⟩

theorem w_laws_FnExactBoxHas {w : World} {M : Nat → Prop} (hG : ARep (RArr 4 RShape) w M shapes ⟨0, 0, none⟩) (hO : ∀ b, M b → b < w.heap.size) {v0p : Value} {a_aB : Box} (h0 : VRep RBox w M a_aB v0p) {v1p : Value} {a_aP : Packet} (h1 : VRep RPacket w M a_aP v1p) {r : Bool} (h : F.laws_FnExactBoxHas a_aB a_aP = some r) :
    Calls Tryd.prog 11 [v0p, v1p].toArray w fun e w' => ∃ v, e = .returned v ∧ VRep RBool w' M r v ∧ BX No w w' := by
  have hC : Cx No w M w M := Cx.start hO (fun _ e => e.elim)
  refine walk (N := 33) Tryd.func11 rfl Tryd.ntmps11 rfl ?_
  refine cw_seq ?_
  refine cw_region ?_
  refine lw_op rfl rfl rfl (ow_box (R := RBox) rfl rfl h0 hC fun p1 w1 hp1 hb1 hl1 hC1 => ?_)
  refine lw_op rfl rfl rfl (ow_box (R := RPacket) rfl rfl (VRep.mono hl1 h1) hC1 fun p2 w2 hp2 hb2 hl2 hC2 => ?_)
  refine lw_op rfl rfl rfl (ow_assign rfl rfl ?_)
  refine lw_nil ?_
  refine ew_then ?_
  refine cw_seq ?_
  refine cw_region ?_
  refine lw_op rfl rfl rfl (ow_assign rfl rfl ?_)
  refine lw_nil ?_
  refine ew_then ?_
  refine cw_seq ?_
  refine cw_region ?_
  refine lw_op rfl rfl rfl (ow_load (R := RBox) rfl rfl (ARep.mono hl2 hp1) (Tryd.sizeOf31 _) (Tryd.isAgg31 _) fun v1 hv1 => ?_)
  refine lw_op rfl rfl rfl (ow_move rfl rfl ?_)
  replace h := bind_some h
  obtain ⟨x1, hx1, h⟩ := h
  refine lw_op rfl rfl rfl (ow_call rfl rfl Tryd.call20 (w_laws_szBox (hG.mono (hl1.trans hl2)) hC2.old hv1 hx1) fun v2 w3 hv2 => ?_)
  obtain ⟨hv2, hb3⟩ := hv2
  have hl3 := Le.no M hb3
  have hC3 := hC2.no hb3
  obtain rfl := vint_eq hv2
  refine lw_op rfl rfl rfl (ow_assign rfl rfl ?_)
  refine lw_nil ?_
  refine ew_then ?_
  refine cw_seq ?_
  refine cw_seq ?_
  refine cw_region ?_
  refine lw_op rfl rfl rfl (ow_move rfl rfl ?_)
  refine lw_op rfl rfl rfl (ow_lss rfl rfl rfl fun bb1 hbb1 => ?_)
  refine lw_nil ?_
  refine ew_then ?_
  replace h := cond_some h
  rcases h with ⟨hc1, h⟩ | ⟨hc1, h⟩
  · obtain rfl := hbb1.trans hc1
    refine cw_true rfl ?_
    refine cw_seq ?_
    refine cw_region ?_
    refine lw_op rfl rfl rfl (ow_assign rfl rfl ?_)
    refine lw_nil ?_
    refine ew_then ?_
    refine cw_ret ?_
    refine ew_thenR ?_
    obtain rfl := Option.some.inj h
    exact ew_ret (res1 rfl (.tmp rfl)) ⟨_, rfl, ((vbool _)), hC3.bx⟩
  · obtain rfl := hbb1.trans hc1
    refine cw_false rfl ?_
    refine cw_skip ?_
    refine ew_then ?_
    refine cw_seq ?_
    replace h := bind_some h
    obtain ⟨x2, hx2, h⟩ := h
    refine cw_sub (E' := [(2, (.pointer (some p1))), (3, (.pointer (some p2))), (4, (.bool false))]) ⟨rfl, rfl, rfl, trivial⟩ ?_
    refine cw_drawQ 3 [PV RBox M a_aB, PV RBox M x2, PV RPacket M a_aP] (by kernel_rfl) rfl (by kernel_rfl) ⟨PV.mono _ _ _, PV.mono _ _ _, PV.mono _ _ _, trivial⟩ ⟨?_, ?_, ?_, trivial⟩ ?_
    · intro w5 D hS1 hd1
      have hl5 := Le.no M hS1
      have hC5 := hC3.no hS1
      refine dg_sub (E' := [(2, (.pointer (some p1)))]) ⟨rfl, trivial⟩ ?_
      refine dg_plain rfl (ow_load (R := RBox) rfl rfl (ARep.mono ((hl2.trans hl3).trans hl5) hp1) (Tryd.sizeOf31 _) (Tryd.isAgg31 _) fun v6 hv6 => ?_)
      exact ⟨BX.refl _ _, hv6⟩
    · intro w6 D hS2 hd2
      have hl6 := Le.no M hS2
      have hC6 := hC3.no hS2
      have hd2 : PV RBox M a_aB (D 0) w6 ∧ True := hd2
      obtain ⟨d1, -⟩ := hd2
      obtain ⟨v7, hq1⟩ : ∃ v, (D 0) = v := ⟨_, rfl⟩
      rw [hq1] at d1
      refine dg_sub (E' := [(14, v7)]) ⟨(congrArg some hq1), trivial⟩ ?_
      refine dg_plain rfl (ow_call rfl rfl Tryd.call22 (w_laws_toBox (hG.mono (((hl1.trans hl2).trans hl3).trans hl6)) hC6.old d1 hx2) fun v8 w7 hv8 => ?_)
      obtain ⟨hv8, hb5⟩ := hv8
      have hl7 := Le.no M hb5
      have hC7 := hC6.no hb5
      exact ⟨hb5, hv8⟩
    · intro w8 D hS3 hd3
      have hl8 := Le.no M hS3
      have hC8 := hC3.no hS3
      refine dg_sub (E' := [(3, (.pointer (some p2)))]) ⟨rfl, trivial⟩ ?_
      refine dg_plain rfl (ow_load (R := RPacket) rfl rfl (ARep.mono (hl3.trans hl8) hp2) (Tryd.sizeOf46 _) (Tryd.isAgg46 _) fun v9 hv9 => ?_)
      exact ⟨BX.refl _ _, hv9⟩
    · intro w9 D hS4 hd4
      have hl9 := Le.no M hS4
      have hC9 := hC3.no hS4
      have hd4 : PV RBox M a_aB (D 0) w9 ∧ PV RBox M x2 (D 1) w9 ∧ PV RPacket M a_aP (D 2) w9 ∧ True := hd4
      obtain ⟨-, d3, d4, -⟩ := hd4
      obtain ⟨v10, hq2⟩ : ∃ v, (D 1) = v := ⟨_, rfl⟩
      rw [hq2] at d3
      obtain ⟨v11, hq3⟩ : ∃ v, (D 2) = v := ⟨_, rfl⟩
      rw [hq3] at d4
      refine lw_sub (E' := [(15, v10), (16, v11), (2, (.pointer (some p1))), (3, (.pointer (some p2))), (4, (.bool false))]) ⟨(congrArg some hq2), (congrArg some hq3), rfl, rfl, rfl, trivial⟩ ?_
      replace h := bind_some h
      obtain ⟨x3, hx3, h⟩ := h
      refine lw_op rfl rfl rfl (ow_call rfl rfl Tryd.call34 (w_laws_toPacket (hG.mono (((hl1.trans hl2).trans hl3).trans hl9)) hC9.old d4 hx3) fun v12 w10 hv12 => ?_)
      obtain ⟨hv12, hb6⟩ := hv12
      have hl10 := Le.no M hb6
      have hC10 := hC9.no hb6
      replace h := bind_some h
      obtain ⟨x4, hx4, h⟩ := h
      refine lw_op rfl rfl rfl (ow_call rfl rfl Tryd.call51 (w_spec_BoxHas (hG.mono ((((hl1.trans hl2).trans hl3).trans hl9).trans hl10)) hC10.old (VRep.mono hl10 d3) hv12 hx4) fun v13 w11 hv13 => ?_)
      obtain ⟨hv13, hb7⟩ := hv13
      have hl11 := Le.no M hb7
      have hC11 := hC10.no hb7
      obtain rfl := vbool_eq hv13
      refine lw_op rfl rfl rfl (ow_assign rfl rfl ?_)
      refine lw_nil ?_
      refine ew_then ?_
      refine cw_seq ?_
      refine cw_region ?_
      refine lw_op rfl rfl rfl (ow_load (R := RBox) rfl rfl (ARep.mono ((((hl2.trans hl3).trans hl9).trans hl10).trans hl11) hp1) (Tryd.sizeOf31 _) (Tryd.isAgg31 _) fun v14 hv14 => ?_)
      refine lw_op rfl rfl rfl (ow_call rfl rfl Tryd.call22 (w_laws_toBox (hG.mono (((((hl1.trans hl2).trans hl3).trans hl9).trans hl10).trans hl11)) hC11.old hv14 hx2) fun v15 w12 hv15 => ?_)
      obtain ⟨hv15, hb8⟩ := hv15
      have hl12 := Le.no M hb8
      have hC12 := hC11.no hb8
      refine lw_allocStore (R := RBox) rfl rfl rfl rfl rfl rfl rfl Tryd.zeroValue24 Tryd.sizeOf24 rfl rfl rfl (by simp) hv15 hC12 fun p3 w13 hp3 hb9 hl13 hC13 => ?_
      refine lw_nil ?_
      refine ew_then ?_
      refine cw_seq ?_
      refine cw_sub (E' := [(2, (.pointer (some p1))), (3, (.pointer (some p2))), (4, (.bool false)), (6, (.bool x4)), (7, (.pointer (some p3)))]) ⟨rfl, rfl, rfl, rfl, rfl, trivial⟩ ?_
      refine cw_drawQ 3 [PV RBox M x2, PV RPacket M a_aP, PV RPacket M x3] (by kernel_rfl) rfl (by kernel_rfl) ⟨PV.mono _ _ _, PV.mono _ _ _, PV.mono _ _ _, trivial⟩ ⟨?_, ?_, ?_, trivial⟩ ?_
      · intro w15 D hS5 hd5
        have hl15 := Le.no M hS5
        have hC15 := hC13.no hS5
        refine dg_sub (E' := [(7, (.pointer (some p3)))]) ⟨rfl, trivial⟩ ?_
        refine dg_plain rfl (ow_load (R := RBox) rfl rfl (ARep.mono hl15 hp3) (Tryd.sizeOf24 _) (Tryd.isAgg24 _) fun v19 hv19 => ?_)
        exact ⟨BX.refl _ _, hv19⟩
      · intro w16 D hS6 hd6
        have hl16 := Le.no M hS6
        have hC16 := hC13.no hS6
        refine dg_sub (E' := [(3, (.pointer (some p2)))]) ⟨rfl, trivial⟩ ?_
        refine dg_plain rfl (ow_load (R := RPacket) rfl rfl (ARep.mono ((((((hl3.trans hl9).trans hl10).trans hl11).trans hl12).trans hl13).trans hl16) hp2) (Tryd.sizeOf46 _) (Tryd.isAgg46 _) fun v20 hv20 => ?_)
        exact ⟨BX.refl _ _, hv20⟩
      · intro w17 D hS7 hd7
        have hl17 := Le.no M hS7
        have hC17 := hC13.no hS7
        have hd7 : PV RPacket M a_aP (D 1) w17 ∧ True := hd7
        obtain ⟨d5, -⟩ := hd7
        obtain ⟨v21, hq4⟩ : ∃ v, (D 1) = v := ⟨_, rfl⟩
        rw [hq4] at d5
        refine dg_sub (E' := [(22, v21)]) ⟨(congrArg some hq4), trivial⟩ ?_
        refine dg_plain rfl (ow_call rfl rfl Tryd.call34 (w_laws_toPacket (hG.mono ((((((((hl1.trans hl2).trans hl3).trans hl9).trans hl10).trans hl11).trans hl12).trans hl13).trans hl17)) hC17.old d5 hx3) fun v22 w18 hv22 => ?_)
        obtain ⟨hv22, hb11⟩ := hv22
        have hl18 := Le.no M hb11
        have hC18 := hC17.no hb11
        exact ⟨hb11, hv22⟩
      · intro w19 D hS8 hd8
        have hl19 := Le.no M hS8
        have hC19 := hC13.no hS8
        have hd8 : PV RBox M x2 (D 0) w19 ∧ PV RPacket M a_aP (D 1) w19 ∧ PV RPacket M x3 (D 2) w19 ∧ True := hd8
        obtain ⟨d6, -, d8, -⟩ := hd8
        obtain ⟨v23, hq5⟩ : ∃ v, (D 0) = v := ⟨_, rfl⟩
        rw [hq5] at d6
        obtain ⟨v24, hq6⟩ : ∃ v, (D 2) = v := ⟨_, rfl⟩
        rw [hq6] at d8
        refine lw_sub (E' := [(21, v23), (23, v24), (2, (.pointer (some p1))), (3, (.pointer (some p2))), (4, (.bool false)), (6, (.bool x4)), (7, (.pointer (some p3)))]) ⟨(congrArg some hq5), (congrArg some hq6), rfl, rfl, rfl, rfl, rfl, trivial⟩ ?_
        replace h := bind_some h
        obtain ⟨x5, hx5, h⟩ := h
        refine lw_op rfl rfl rfl (ow_call rfl rfl Tryd.call28 (w_impl_BoxHas (hG.mono ((((((((hl1.trans hl2).trans hl3).trans hl9).trans hl10).trans hl11).trans hl12).trans hl13).trans hl19)) hC19.old d6 d8 hx5) fun v25 w20 hv25 => ?_)
        obtain ⟨hv25, hb12⟩ := hv25
        have hl20 := Le.no M hb12
        have hC20 := hC19.no hb12
        obtain rfl := vbool_eq hv25
        refine lw_op rfl rfl rfl (ow_assign rfl rfl ?_)
        refine lw_nil ?_
        refine ew_then ?_
        refine cw_seq ?_
        refine cw_seq ?_
        refine cw_region ?_
        refine lw_op rfl rfl rfl (ow_move rfl rfl ?_)
        refine lw_op rfl rfl rfl (ow_move rfl rfl ?_)
        refine lw_op rfl rfl rfl (ow_neqB rfl rfl rfl Tryd.underlying4 fun bb2 hbb2 => ?_)
        refine lw_nil ?_
        refine ew_then ?_
        replace h := cond_some h
        rcases h with ⟨hc2, h⟩ | ⟨hc2, h⟩
        · obtain rfl := hbb2.trans hc2
          refine cw_true rfl ?_
          refine cw_seq ?_
          refine cw_region ?_
          refine lw_op rfl rfl rfl (ow_assign rfl rfl ?_)
          refine lw_nil ?_
          refine ew_then ?_
          refine cw_ret ?_
          refine ew_thenR ?_
          obtain rfl := Option.some.inj h
          exact ew_ret (res1 rfl (.tmp rfl)) ⟨_, rfl, ((vbool _)), hC20.bx⟩
        · obtain rfl := hbb2.trans hc2
          refine cw_false rfl ?_
          refine cw_skip ?_
          refine ew_then ?_
          refine cw_seq ?_
          refine cw_seq ?_
          refine cw_sub (E' := [(2, (.pointer (some p1))), (4, (.bool false)), (7, (.pointer (some p3)))]) ⟨rfl, rfl, rfl, trivial⟩ ?_
          refine cw_drawQ 3 [PV RBox M x2, PV RBox M a_aB, PV RBox M x2] (by kernel_rfl) rfl (by kernel_rfl) ⟨PV.mono _ _ _, PV.mono _ _ _, PV.mono _ _ _, trivial⟩ ⟨?_, ?_, ?_, trivial⟩ ?_
          · intro w22 D hS9 hd9
            have hl22 := Le.no M hS9
            have hC22 := hC20.no hS9
            refine dg_sub (E' := [(7, (.pointer (some p3)))]) ⟨rfl, trivial⟩ ?_
            refine dg_plain rfl (ow_load (R := RBox) rfl rfl (ARep.mono ((hl19.trans hl20).trans hl22) hp3) (Tryd.sizeOf24 _) (Tryd.isAgg24 _) fun v29 hv29 => ?_)
            exact ⟨BX.refl _ _, hv29⟩
          · intro w23 D hS10 hd10
            have hl23 := Le.no M hS10
            have hC23 := hC20.no hS10
            refine dg_sub (E' := [(2, (.pointer (some p1)))]) ⟨rfl, trivial⟩ ?_
            refine dg_plain rfl (ow_load (R := RBox) rfl rfl (ARep.mono (((((((((hl2.trans hl3).trans hl9).trans hl10).trans hl11).trans hl12).trans hl13).trans hl19).trans hl20).trans hl23) hp1) (Tryd.sizeOf31 _) (Tryd.isAgg31 _) fun v30 hv30 => ?_)
            exact ⟨BX.refl _ _, hv30⟩
          · intro w24 D hS11 hd11
            have hl24 := Le.no M hS11
            have hC24 := hC20.no hS11
            have hd11 : PV RBox M a_aB (D 1) w24 ∧ True := hd11
            obtain ⟨d9, -⟩ := hd11
            obtain ⟨v31, hq7⟩ : ∃ v, (D 1) = v := ⟨_, rfl⟩
            rw [hq7] at d9
            refine dg_sub (E' := [(29, v31)]) ⟨(congrArg some hq7), trivial⟩ ?_
            refine dg_plain rfl (ow_call rfl rfl Tryd.call22 (w_laws_toBox (hG.mono ((((((((((hl1.trans hl2).trans hl3).trans hl9).trans hl10).trans hl11).trans hl12).trans hl13).trans hl19).trans hl20).trans hl24)) hC24.old d9 hx2) fun v32 w25 hv32 => ?_)
            obtain ⟨hv32, hb14⟩ := hv32
            have hl25 := Le.no M hb14
            have hC25 := hC24.no hb14
            exact ⟨hb14, hv32⟩
          · intro w26 D hS12 hd12
            have hl26 := Le.no M hS12
            have hC26 := hC20.no hS12
            have hd12 : PV RBox M x2 (D 0) w26 ∧ PV RBox M a_aB (D 1) w26 ∧ PV RBox M x2 (D 2) w26 ∧ True := hd12
            obtain ⟨d10, -, d12, -⟩ := hd12
            obtain ⟨v33, hq8⟩ : ∃ v, (D 0) = v := ⟨_, rfl⟩
            rw [hq8] at d10
            obtain ⟨v34, hq9⟩ : ∃ v, (D 2) = v := ⟨_, rfl⟩
            rw [hq9] at d12
            refine lw_sub (E' := [(28, v33), (30, v34), (2, (.pointer (some p1))), (4, (.bool false)), (7, (.pointer (some p3)))]) ⟨(congrArg some hq8), (congrArg some hq9), rfl, rfl, rfl, trivial⟩ ?_
            replace h := bind_some h
            obtain ⟨x6, hx6, h⟩ := h
            refine lw_op rfl rfl rfl (ow_call rfl rfl Tryd.call17 (w_laws_eqBox (hG.mono ((((((((((hl1.trans hl2).trans hl3).trans hl9).trans hl10).trans hl11).trans hl12).trans hl13).trans hl19).trans hl20).trans hl26)) hC26.old d10 d12 hx6) fun v35 w27 hv35 => ?_)
            obtain ⟨hv35, hb15⟩ := hv35
            have hl27 := Le.no M hb15
            have hC27 := hC26.no hb15
            obtain rfl := vbool_eq hv35
            refine lw_op rfl rfl rfl (ow_not rfl rfl ?_)
            refine lw_nil ?_
            refine ew_then ?_
            replace h := cond_some h
            rcases h with ⟨hc3, h⟩ | ⟨hc3, h⟩
            · subst hc3
              refine cw_false rfl ?_
              refine cw_skip ?_
              refine ew_then ?_
              refine cw_seq ?_
              refine cw_region ?_
              refine lw_op rfl rfl rfl (ow_assign rfl rfl ?_)
              refine lw_nil ?_
              refine ew_then ?_
              refine cw_ret ?_
              obtain rfl := Option.some.inj h
              exact ew_ret (res1 rfl (.tmp rfl)) ⟨_, rfl, ((vbool _)), hC27.bx⟩
            · subst hc3
              refine cw_true rfl ?_
              refine cw_seq ?_
              refine cw_region ?_
              refine lw_op rfl rfl rfl (ow_assign rfl rfl ?_)
              refine lw_nil ?_
              refine ew_then ?_
              refine cw_ret ?_
              refine ew_thenR ?_
              obtain rfl := Option.some.inj h
              exact ew_ret (res1 rfl (.tmp rfl)) ⟨_, rfl, ((vbool _)), hC27.bx⟩


end Go.PF
