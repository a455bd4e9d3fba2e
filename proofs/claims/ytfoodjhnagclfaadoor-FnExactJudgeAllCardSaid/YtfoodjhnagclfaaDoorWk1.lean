/- The walks; no condition. -/
import Derived.Test.YtfoodjhnagclfaaDoorProg
import Derived.Test.YtfoodjhnagclfaaDoorWk0
import Derived.Test.YtfoodjhnagclfaaDoorPFWalk
set_option maxRecDepth 100000
set_option maxHeartbeats 4000000
namespace Go.PF
open Go Go.RowKit Go.Proofs

theorem w_spec_TestHolds {w : World} {M : Nat → Prop} (hG : ARep (RArr 4 RShape) w M shapes ⟨0, 0, none⟩) (hO : ∀ b, M b → b < w.heap.size) {v0p : Value} {a_t : Test} (h0 : VRep RTest w M a_t v0p) {v1p : Value} {a_p : Packet} (h1 : VRep RPacket w M a_p v1p) {r : Bool} (h : F.spec_TestHolds a_t a_p = some r) :
    Calls Tryd.prog 140 [v0p, v1p].toArray w fun e w' => ∃ v, e = .returned v ∧ VRep RBool w' M r v ∧ BX No w w' := by
  have hC : Cx No w M w M := Cx.start hO (fun _ e => e.elim)
  refine walk (N := 25) Tryd.func140 rfl Tryd.ntmps140 rfl ?_
  refine cw_seq ?_
  refine cw_region ?_
  refine lw_op rfl rfl rfl (ow_box (R := RTest) rfl rfl h0 hC fun p1 w1 hp1 hb1 hl1 hC1 => ?_)
  refine lw_op rfl rfl rfl (ow_box (R := RPacket) rfl rfl (VRep.mono hl1 h1) hC1 fun p2 w2 hp2 hb2 hl2 hC2 => ?_)
  refine lw_op rfl rfl rfl (ow_assign rfl rfl ?_)
  refine lw_nil ?_
  refine ew_then ?_
  refine cw_seq ?_
  replace h := bind_some h
  obtain ⟨x1, hx1, h⟩ := h
  replace h := cond_some h
  rcases h with ⟨hc1, h⟩ | ⟨hc1, h⟩
  · subst hc1
    replace h := bind_some h
    obtain ⟨x2, hx2, h⟩ := h
    replace h := cond_some h
    rcases h with ⟨hc2, h⟩ | ⟨hc2, h⟩
    · subst hc2
      replace h := bind_some h
      obtain ⟨x3, hx3, h⟩ := h
      replace h := bind_some h
      obtain ⟨x4, hx4, h⟩ := h
      refine cw_sub (E' := [(2, (.pointer (some p1))), (3, (.pointer (some p2))), (4, (.bool false))]) ⟨rfl, rfl, rfl, trivial⟩ ?_
      refine cw_drawQ 18 [PV RTest M a_t, PEq (.bool true), PEq (.bool true), PV RPacket M a_p, PEq (.bool true), PEq (.bool true), PEq (.bool true), PV RPacket M a_p, PA RInt M a_t.Field, PEq (.int .i64 a_t.Field), PEq (.int .i64 x3), PA RInt M a_t.Lo, PEq (.int .i64 a_t.Lo), PA RInt M a_t.Hi, PEq (.int .i64 a_t.Hi), PEq (.bool x4), PA RBool M a_t.Not, PEq (.bool a_t.Not)] (by kernel_rfl) rfl (by kernel_rfl) ⟨PV.mono _ _ _, PEq.mono _, PEq.mono _, PV.mono _ _ _, PEq.mono _, PEq.mono _, PEq.mono _, PV.mono _ _ _, PA.mono _ _ _, PEq.mono _, PEq.mono _, PA.mono _ _ _, PEq.mono _, PA.mono _ _ _, PEq.mono _, PEq.mono _, PA.mono _ _ _, PEq.mono _, trivial⟩ ⟨?_, ?_, ?_, ?_, ?_, ?_, ?_, ?_, ?_, ?_, ?_, ?_, ?_, ?_, ?_, ?_, ?_, ?_, trivial⟩ ?_
      · intro w7 D hS1 hd1
        have hl7 := Le.no M hS1
        have hC7 := hC2.no hS1
        refine dg_sub (E' := [(2, (.pointer (some p1)))]) ⟨rfl, trivial⟩ ?_
        refine dg_plain rfl (ow_load (R := RTest) rfl rfl (ARep.mono (hl2.trans hl7) hp1) (Tryd.sizeOf186 _) (Tryd.isAgg186 _) fun v12 hv12 => ?_)
        exact ⟨BX.refl _ _, hv12⟩
      · intro w8 D hS2 hd2
        have hl8 := Le.no M hS2
        have hC8 := hC2.no hS2
        have hd2 : PV RTest M a_t (D 0) w8 ∧ True := hd2
        obtain ⟨d1, -⟩ := hd2
        obtain ⟨v13, hq1⟩ : ∃ v, (D 0) = v := ⟨_, rfl⟩
        rw [hq1] at d1
        refine dg_sub (E' := [(5, v13)]) ⟨(congrArg some hq1), trivial⟩ ?_
        refine dg_plain rfl (ow_call rfl rfl Tryd.call138 (w_spec_TestValid (hG.mono ((hl1.trans hl2).trans hl8)) hC8.old d1 hx1) fun v14 w9 hv14 => ?_)
        obtain ⟨hv14, hb7⟩ := hv14
        have hl9 := Le.no M hb7
        have hC9 := hC8.no hb7
        obtain rfl := vbool_eq hv14
        exact ⟨hb7, rfl⟩
      · intro w10 D hS3 hd3
        have hl10 := Le.no M hS3
        have hC10 := hC2.no hS3
        have hd3 : PEq (.bool true) (D 1) w10 ∧ PEq (.bool true) (D 1) w10 ∧ True := hd3
        obtain ⟨d2, d3, -⟩ := hd3
        refine dg_sub (E' := [(6, (.bool true))]) ⟨(congrArg some d2), trivial⟩ ?_
        refine dg_plain rfl (ow_move rfl rfl ?_)
        exact ⟨BX.refl _ _, rfl⟩
      · intro w11 D hS4 hd4
        have hl11 := Le.no M hS4
        have hC11 := hC2.no hS4
        have hd4 : PEq (.bool true) (D 2) w11 ∧ True := hd4
        obtain ⟨d4, -⟩ := hd4
        refine dg_sub (E' := [(7, (.bool true)), (3, (.pointer (some p2)))]) ⟨(congrArg some d4), rfl, trivial⟩ ?_
        refine dg_on rfl rfl rfl rfl (ow_load (R := RPacket) rfl rfl (ARep.mono hl11 hp2) (Tryd.sizeOf39 _) (Tryd.isAgg39 _) fun v15 hv15 => ?_)
        exact ⟨BX.refl _ _, hv15⟩
      · intro w12 D hS5 hd5
        have hl12 := Le.no M hS5
        have hC12 := hC2.no hS5
        have hd5 : PV RPacket M a_p (D 3) w12 ∧ PEq (.bool true) (D 2) w12 ∧ PEq (.bool true) (D 2) w12 ∧ True := hd5
        obtain ⟨d5, d6, d7, -⟩ := hd5
        obtain ⟨v16, hq2⟩ : ∃ v, (D 3) = v := ⟨_, rfl⟩
        rw [hq2] at d5
        refine dg_sub (E' := [(8, v16), (7, (.bool true))]) ⟨(congrArg some hq2), (congrArg some d6), trivial⟩ ?_
        refine dg_on rfl rfl rfl rfl (ow_call rfl rfl Tryd.call76 (w_spec_PacketValid (hG.mono ((hl1.trans hl2).trans hl12)) hC12.old d5 hx2) fun v17 w13 hv17 => ?_)
        obtain ⟨hv17, hb8⟩ := hv17
        have hl13 := Le.no M hb8
        have hC13 := hC12.no hb8
        obtain rfl := vbool_eq hv17
        exact ⟨hb8, rfl⟩
      · intro w14 D hS6 hd6
        have hl14 := Le.no M hS6
        have hC14 := hC2.no hS6
        have hd6 : PEq (.bool true) (D 2) w14 ∧ PEq (.bool true) (D 4) w14 ∧ True := hd6
        obtain ⟨d8, d9, -⟩ := hd6
        refine dg_sub (E' := [(7, (.bool true)), (9, (.bool true))]) ⟨(congrArg some d8), (congrArg some d9), trivial⟩ ?_
        refine dg_plain rfl (ow_pickT rfl rfl rfl ?_)
        exact ⟨BX.refl _ _, rfl⟩
      · intro w15 D hS7 hd7
        have hl15 := Le.no M hS7
        have hC15 := hC2.no hS7
        have hd7 : PEq (.bool true) (D 5) w15 ∧ PEq (.bool true) (D 4) w15 ∧ True := hd7
        obtain ⟨d10, d11, -⟩ := hd7
        refine dg_sub (E' := [(10, (.bool true))]) ⟨(congrArg some d10), trivial⟩ ?_
        refine dg_plain rfl (ow_move rfl rfl ?_)
        exact ⟨BX.refl _ _, rfl⟩
      · intro w16 D hS8 hd8
        have hl16 := Le.no M hS8
        have hC16 := hC2.no hS8
        have hd8 : PEq (.bool true) (D 6) w16 ∧ True := hd8
        obtain ⟨d12, -⟩ := hd8
        refine dg_sub (E' := [(11, (.bool true)), (3, (.pointer (some p2)))]) ⟨(congrArg some d12), rfl, trivial⟩ ?_
        refine dg_on rfl rfl rfl rfl (ow_load (R := RPacket) rfl rfl (ARep.mono hl16 hp2) (Tryd.sizeOf39 _) (Tryd.isAgg39 _) fun v18 hv18 => ?_)
        exact ⟨BX.refl _ _, hv18⟩
      · intro w17 D hS9 hd9
        have hl17 := Le.no M hS9
        have hC17 := hC2.no hS9
        have hd9 : PEq (.bool true) (D 6) w17 ∧ True := hd9
        obtain ⟨d13, -⟩ := hd9
        refine dg_sub (E' := [(11, (.bool true)), (2, (.pointer (some p1)))]) ⟨(congrArg some d13), rfl, trivial⟩ ?_
        refine dg_on rfl rfl rfl rfl (ow_fieldAddr rfl rfl Tryd.underlying186 rfl (Tryd.sizeOf3 _) ?_)
        exact ⟨BX.refl _ _, ⟨_, rfl, (ARep.mono (hl2.trans hl17) (hp1.fld fld_Test_Field))⟩⟩
      · intro w18 D hS10 hd10
        have hl18 := Le.no M hS10
        have hC18 := hC2.no hS10
        have hd10 : PA RInt M a_t.Field (D 8) w18 ∧ PEq (.bool true) (D 6) w18 ∧ True := hd10
        obtain ⟨d14, d15, -⟩ := hd10
        obtain ⟨p3, e1, ha1⟩ := d14
        refine dg_sub (E' := [(13, (.pointer (some p3))), (11, (.bool true))]) ⟨(congrArg some e1), (congrArg some d15), trivial⟩ ?_
        refine dg_on rfl rfl rfl rfl (ow_load (R := RInt) rfl rfl ha1 (Tryd.sizeOf3 _) (Tryd.isAgg3 _) fun v19 hv19 => ?_)
        obtain rfl := vint_eq hv19
        exact ⟨BX.refl _ _, rfl⟩
      · intro w19 D hS11 hd11
        have hl19 := Le.no M hS11
        have hC19 := hC2.no hS11
        have hd11 : PV RPacket M a_p (D 7) w19 ∧ PEq (.int .i64 a_t.Field) (D 9) w19 ∧ PEq (.bool true) (D 6) w19 ∧ PEq (.bool true) (D 6) w19 ∧ True := hd11
        obtain ⟨d16, d17, d18, d19, -⟩ := hd11
        obtain ⟨v20, hq3⟩ : ∃ v, (D 7) = v := ⟨_, rfl⟩
        rw [hq3] at d16
        refine dg_sub (E' := [(12, v20), (14, (.int .i64 a_t.Field)), (11, (.bool true))]) ⟨(congrArg some hq3), (congrArg some d17), (congrArg some d18), trivial⟩ ?_
        refine dg_on rfl rfl rfl rfl (ow_call rfl rfl Tryd.call118 (w_spec_PacketField (hG.mono ((hl1.trans hl2).trans hl19)) hC19.old d16 hx3) fun v21 w20 hv21 => ?_)
        obtain ⟨hv21, hb9⟩ := hv21
        have hl20 := Le.no M hb9
        have hC20 := hC19.no hb9
        obtain rfl := vint_eq hv21
        exact ⟨hb9, rfl⟩
      · intro w21 D hS12 hd12
        have hl21 := Le.no M hS12
        have hC21 := hC2.no hS12
        have hd12 : PEq (.bool true) (D 6) w21 ∧ True := hd12
        obtain ⟨d20, -⟩ := hd12
        refine dg_sub (E' := [(11, (.bool true)), (2, (.pointer (some p1)))]) ⟨(congrArg some d20), rfl, trivial⟩ ?_
        refine dg_on rfl rfl rfl rfl (ow_fieldAddr rfl rfl Tryd.underlying186 rfl (Tryd.sizeOf3 _) ?_)
        exact ⟨BX.refl _ _, ⟨_, rfl, (ARep.mono (hl2.trans hl21) (hp1.fld fld_Test_Lo))⟩⟩
      · intro w22 D hS13 hd13
        have hl22 := Le.no M hS13
        have hC22 := hC2.no hS13
        have hd13 : PA RInt M a_t.Lo (D 11) w22 ∧ PEq (.bool true) (D 6) w22 ∧ True := hd13
        obtain ⟨d21, d22, -⟩ := hd13
        obtain ⟨p4, e2, ha2⟩ := d21
        refine dg_sub (E' := [(16, (.pointer (some p4))), (11, (.bool true))]) ⟨(congrArg some e2), (congrArg some d22), trivial⟩ ?_
        refine dg_on rfl rfl rfl rfl (ow_load (R := RInt) rfl rfl ha2 (Tryd.sizeOf3 _) (Tryd.isAgg3 _) fun v22 hv22 => ?_)
        obtain rfl := vint_eq hv22
        exact ⟨BX.refl _ _, rfl⟩
      · intro w23 D hS14 hd14
        have hl23 := Le.no M hS14
        have hC23 := hC2.no hS14
        have hd14 : PEq (.bool true) (D 6) w23 ∧ True := hd14
        obtain ⟨d23, -⟩ := hd14
        refine dg_sub (E' := [(11, (.bool true)), (2, (.pointer (some p1)))]) ⟨(congrArg some d23), rfl, trivial⟩ ?_
        refine dg_on rfl rfl rfl rfl (ow_fieldAddr rfl rfl Tryd.underlying186 rfl (Tryd.sizeOf3 _) ?_)
        exact ⟨BX.refl _ _, ⟨_, rfl, (ARep.mono (hl2.trans hl23) (hp1.fld fld_Test_Hi))⟩⟩
      · intro w24 D hS15 hd15
        have hl24 := Le.no M hS15
        have hC24 := hC2.no hS15
        have hd15 : PA RInt M a_t.Hi (D 13) w24 ∧ PEq (.bool true) (D 6) w24 ∧ True := hd15
        obtain ⟨d24, d25, -⟩ := hd15
        obtain ⟨p5, e3, ha3⟩ := d24
        refine dg_sub (E' := [(18, (.pointer (some p5))), (11, (.bool true))]) ⟨(congrArg some e3), (congrArg some d25), trivial⟩ ?_
        refine dg_on rfl rfl rfl rfl (ow_load (R := RInt) rfl rfl ha3 (Tryd.sizeOf3 _) (Tryd.isAgg3 _) fun v23 hv23 => ?_)
        obtain rfl := vint_eq hv23
        exact ⟨BX.refl _ _, rfl⟩
      · intro w25 D hS16 hd16
        have hl25 := Le.no M hS16
        have hC25 := hC2.no hS16
        have hd16 : PEq (.int .i64 x3) (D 10) w25 ∧ PEq (.int .i64 a_t.Lo) (D 12) w25 ∧ PEq (.int .i64 a_t.Hi) (D 14) w25 ∧ PEq (.int .i64 x3) (D 10) w25 ∧ PEq (.bool true) (D 6) w25 ∧ True := hd16
        obtain ⟨d26, d27, d28, d29, d30, -⟩ := hd16
        refine dg_sub (E' := [(15, (.int .i64 x3)), (17, (.int .i64 a_t.Lo)), (19, (.int .i64 a_t.Hi)), (11, (.bool true))]) ⟨(congrArg some d26), (congrArg some d27), (congrArg some d28), (congrArg some d30), trivial⟩ ?_
        refine dg_on rfl rfl rfl rfl (ow_call rfl rfl Tryd.call83 (w_spec_l1In (hG.mono ((hl1.trans hl2).trans hl25)) hC25.old hx4) fun v24 w26 hv24 => ?_)
        obtain ⟨hv24, hb10⟩ := hv24
        have hl26 := Le.no M hb10
        have hC26 := hC25.no hb10
        obtain rfl := vbool_eq hv24
        exact ⟨hb10, rfl⟩
      · intro w27 D hS17 hd17
        have hl27 := Le.no M hS17
        have hC27 := hC2.no hS17
        have hd17 : PEq (.bool true) (D 6) w27 ∧ True := hd17
        obtain ⟨d31, -⟩ := hd17
        refine dg_sub (E' := [(11, (.bool true)), (2, (.pointer (some p1)))]) ⟨(congrArg some d31), rfl, trivial⟩ ?_
        refine dg_on rfl rfl rfl rfl (ow_fieldAddr rfl rfl Tryd.underlying186 rfl (Tryd.sizeOf4 _) ?_)
        exact ⟨BX.refl _ _, ⟨_, rfl, (ARep.mono (hl2.trans hl27) (hp1.fld fld_Test_Not))⟩⟩
      · intro w28 D hS18 hd18
        have hl28 := Le.no M hS18
        have hC28 := hC2.no hS18
        have hd18 : PA RBool M a_t.Not (D 16) w28 ∧ PEq (.bool true) (D 6) w28 ∧ True := hd18
        obtain ⟨d32, d33, -⟩ := hd18
        obtain ⟨p6, e4, ha4⟩ := d32
        refine dg_sub (E' := [(21, (.pointer (some p6))), (11, (.bool true))]) ⟨(congrArg some e4), (congrArg some d33), trivial⟩ ?_
        refine dg_on rfl rfl rfl rfl (ow_load (R := RBool) rfl rfl ha4 (Tryd.sizeOf4 _) (Tryd.isAgg4 _) fun v25 hv25 => ?_)
        obtain ⟨bb2, hbb2, rfl⟩ := vbool_ex hv25
        exact ⟨BX.refl _ _, (congrArg Value.bool hbb2)⟩
      · intro w29 D hS19 hd19
        have hl29 := Le.no M hS19
        have hC29 := hC2.no hS19
        have hd19 : PV RTest M a_t (D 0) w29 ∧ PEq (.bool true) (D 1) w29 ∧ PEq (.bool true) (D 2) w29 ∧ PV RPacket M a_p (D 3) w29 ∧ PEq (.bool true) (D 4) w29 ∧ PEq (.bool true) (D 5) w29 ∧ PEq (.bool true) (D 6) w29 ∧ PV RPacket M a_p (D 7) w29 ∧ PA RInt M a_t.Field (D 8) w29 ∧ PEq (.int .i64 a_t.Field) (D 9) w29 ∧ PEq (.int .i64 x3) (D 10) w29 ∧ PA RInt M a_t.Lo (D 11) w29 ∧ PEq (.int .i64 a_t.Lo) (D 12) w29 ∧ PA RInt M a_t.Hi (D 13) w29 ∧ PEq (.int .i64 a_t.Hi) (D 14) w29 ∧ PEq (.bool x4) (D 15) w29 ∧ PA RBool M a_t.Not (D 16) w29 ∧ PEq (.bool a_t.Not) (D 17) w29 ∧ True := hd19
        obtain ⟨-, -, -, -, -, -, d40, -, -, -, -, -, -, -, -, d49, -, d51, -⟩ := hd19
        obtain ⟨bb3, hq4, hq5⟩ : ∃ b, b = x4 ∧ (D 15) = .bool b := ⟨_, rfl, d49⟩
        obtain ⟨bb4, hq6, hq7⟩ : ∃ b, b = a_t.Not ∧ (D 17) = .bool b := ⟨_, rfl, d51⟩
        refine lw_sub (E' := [(11, (.bool true)), (20, (.bool bb3)), (22, (.bool bb4)), (2, (.pointer (some p1))), (3, (.pointer (some p2))), (4, (.bool false))]) ⟨(congrArg some d40), (congrArg some hq5), (congrArg some hq7), rfl, rfl, rfl, trivial⟩ ?_
        refine lw_on rfl rfl rfl rfl rfl rfl (ow_neqB rfl rfl rfl Tryd.underlying4 fun bb5 hbb5 => ?_)
        have hbb5' : bb5 = (x4 != a_t.Not) := hbb5.trans (by rw [hq4, hq6])
        refine lw_op rfl rfl rfl (ow_pickT rfl rfl rfl ?_)
        refine lw_op rfl rfl rfl (ow_assign rfl rfl ?_)
        refine lw_nil ?_
        refine ew_then ?_
        refine cw_ret ?_
        obtain rfl := Option.some.inj h
        exact ew_ret (res1 rfl (.tmp rfl)) ⟨_, rfl, ((vbool_of hbb5')), hC29.bx⟩
    · subst hc2
      refine cw_sub (E' := [(2, (.pointer (some p1))), (3, (.pointer (some p2))), (4, (.bool false))]) ⟨rfl, rfl, rfl, trivial⟩ ?_
      refine cw_drawQ 18 [PV RTest M a_t, PEq (.bool true), PEq (.bool true), PV RPacket M a_p, PEq (.bool false), PEq (.bool false), PEq (.bool false), PEq undef, PEq undef, PEq undef, PEq undef, PEq undef, PEq undef, PEq undef, PEq undef, PEq undef, PEq undef, PEq undef] (by kernel_rfl) rfl (by kernel_rfl) ⟨PV.mono _ _ _, PEq.mono _, PEq.mono _, PV.mono _ _ _, PEq.mono _, PEq.mono _, PEq.mono _, PEq.mono _, PEq.mono _, PEq.mono _, PEq.mono _, PEq.mono _, PEq.mono _, PEq.mono _, PEq.mono _, PEq.mono _, PEq.mono _, PEq.mono _, trivial⟩ ⟨?_, ?_, ?_, ?_, ?_, ?_, ?_, ?_, ?_, ?_, ?_, ?_, ?_, ?_, ?_, ?_, ?_, ?_, trivial⟩ ?_
      · intro w30 D hS20 hd20
        have hl30 := Le.no M hS20
        have hC30 := hC2.no hS20
        refine dg_sub (E' := [(2, (.pointer (some p1)))]) ⟨rfl, trivial⟩ ?_
        refine dg_plain rfl (ow_load (R := RTest) rfl rfl (ARep.mono (hl2.trans hl30) hp1) (Tryd.sizeOf186 _) (Tryd.isAgg186 _) fun v26 hv26 => ?_)
        exact ⟨BX.refl _ _, hv26⟩
      · intro w31 D hS21 hd21
        have hl31 := Le.no M hS21
        have hC31 := hC2.no hS21
        have hd21 : PV RTest M a_t (D 0) w31 ∧ True := hd21
        obtain ⟨d52, -⟩ := hd21
        obtain ⟨v27, hq8⟩ : ∃ v, (D 0) = v := ⟨_, rfl⟩
        rw [hq8] at d52
        refine dg_sub (E' := [(5, v27)]) ⟨(congrArg some hq8), trivial⟩ ?_
        refine dg_plain rfl (ow_call rfl rfl Tryd.call138 (w_spec_TestValid (hG.mono ((hl1.trans hl2).trans hl31)) hC31.old d52 hx1) fun v28 w32 hv28 => ?_)
        obtain ⟨hv28, hb11⟩ := hv28
        have hl32 := Le.no M hb11
        have hC32 := hC31.no hb11
        obtain rfl := vbool_eq hv28
        exact ⟨hb11, rfl⟩
      · intro w33 D hS22 hd22
        have hl33 := Le.no M hS22
        have hC33 := hC2.no hS22
        have hd22 : PEq (.bool true) (D 1) w33 ∧ PEq (.bool true) (D 1) w33 ∧ True := hd22
        obtain ⟨d53, d54, -⟩ := hd22
        refine dg_sub (E' := [(6, (.bool true))]) ⟨(congrArg some d53), trivial⟩ ?_
        refine dg_plain rfl (ow_move rfl rfl ?_)
        exact ⟨BX.refl _ _, rfl⟩
      · intro w34 D hS23 hd23
        have hl34 := Le.no M hS23
        have hC34 := hC2.no hS23
        have hd23 : PEq (.bool true) (D 2) w34 ∧ True := hd23
        obtain ⟨d55, -⟩ := hd23
        refine dg_sub (E' := [(7, (.bool true)), (3, (.pointer (some p2)))]) ⟨(congrArg some d55), rfl, trivial⟩ ?_
        refine dg_on rfl rfl rfl rfl (ow_load (R := RPacket) rfl rfl (ARep.mono hl34 hp2) (Tryd.sizeOf39 _) (Tryd.isAgg39 _) fun v29 hv29 => ?_)
        exact ⟨BX.refl _ _, hv29⟩
      · intro w35 D hS24 hd24
        have hl35 := Le.no M hS24
        have hC35 := hC2.no hS24
        have hd24 : PV RPacket M a_p (D 3) w35 ∧ PEq (.bool true) (D 2) w35 ∧ PEq (.bool true) (D 2) w35 ∧ True := hd24
        obtain ⟨d56, d57, d58, -⟩ := hd24
        obtain ⟨v30, hq9⟩ : ∃ v, (D 3) = v := ⟨_, rfl⟩
        rw [hq9] at d56
        refine dg_sub (E' := [(8, v30), (7, (.bool true))]) ⟨(congrArg some hq9), (congrArg some d57), trivial⟩ ?_
        refine dg_on rfl rfl rfl rfl (ow_call rfl rfl Tryd.call76 (w_spec_PacketValid (hG.mono ((hl1.trans hl2).trans hl35)) hC35.old d56 hx2) fun v31 w36 hv31 => ?_)
        obtain ⟨hv31, hb12⟩ := hv31
        have hl36 := Le.no M hb12
        have hC36 := hC35.no hb12
        obtain rfl := vbool_eq hv31
        exact ⟨hb12, rfl⟩
      · intro w37 D hS25 hd25
        have hl37 := Le.no M hS25
        have hC37 := hC2.no hS25
        have hd25 : PEq (.bool true) (D 2) w37 ∧ PEq (.bool false) (D 4) w37 ∧ True := hd25
        obtain ⟨d59, d60, -⟩ := hd25
        refine dg_sub (E' := [(7, (.bool true)), (9, (.bool false))]) ⟨(congrArg some d59), (congrArg some d60), trivial⟩ ?_
        refine dg_plain rfl (ow_pickT rfl rfl rfl ?_)
        exact ⟨BX.refl _ _, rfl⟩
      · intro w38 D hS26 hd26
        have hl38 := Le.no M hS26
        have hC38 := hC2.no hS26
        have hd26 : PEq (.bool false) (D 5) w38 ∧ PEq (.bool false) (D 4) w38 ∧ True := hd26
        obtain ⟨d61, d62, -⟩ := hd26
        refine dg_sub (E' := [(10, (.bool false))]) ⟨(congrArg some d61), trivial⟩ ?_
        refine dg_plain rfl (ow_move rfl rfl ?_)
        exact ⟨BX.refl _ _, rfl⟩
      · intro w39 D hS27 hd27
        have hl39 := Le.no M hS27
        have hC39 := hC2.no hS27
        have hd27 : PEq (.bool false) (D 6) w39 ∧ True := hd27
        obtain ⟨d63, -⟩ := hd27
        refine dg_sub (E' := [(11, (.bool false)), (3, (.pointer (some p2)))]) ⟨(congrArg some d63), rfl, trivial⟩ ?_
        exact dg_off rfl rfl rfl rfl ⟨BX.refl _ _, rfl⟩
      · intro w40 D hS28 hd28
        have hl40 := Le.no M hS28
        have hC40 := hC2.no hS28
        have hd28 : PEq (.bool false) (D 6) w40 ∧ True := hd28
        obtain ⟨d64, -⟩ := hd28
        refine dg_sub (E' := [(11, (.bool false)), (2, (.pointer (some p1)))]) ⟨(congrArg some d64), rfl, trivial⟩ ?_
        exact dg_off rfl rfl rfl rfl ⟨BX.refl _ _, rfl⟩
      · intro w41 D hS29 hd29
        have hl41 := Le.no M hS29
        have hC41 := hC2.no hS29
        have hd29 : PEq undef (D 8) w41 ∧ PEq (.bool false) (D 6) w41 ∧ True := hd29
        obtain ⟨d65, d66, -⟩ := hd29
        refine dg_sub (E' := [(13, undef), (11, (.bool false))]) ⟨(congrArg some d65), (congrArg some d66), trivial⟩ ?_
        exact dg_off rfl rfl rfl rfl ⟨BX.refl _ _, rfl⟩
      · intro w42 D hS30 hd30
        have hl42 := Le.no M hS30
        have hC42 := hC2.no hS30
        have hd30 : PEq undef (D 7) w42 ∧ PEq undef (D 9) w42 ∧ PEq (.bool false) (D 6) w42 ∧ PEq (.bool false) (D 6) w42 ∧ True := hd30
        obtain ⟨d67, d68, d69, d70, -⟩ := hd30
        refine dg_sub (E' := [(12, undef), (14, undef), (11, (.bool false))]) ⟨(congrArg some d67), (congrArg some d68), (congrArg some d69), trivial⟩ ?_
        exact dg_off rfl rfl rfl rfl ⟨BX.refl _ _, rfl⟩
      · intro w43 D hS31 hd31
        have hl43 := Le.no M hS31
        have hC43 := hC2.no hS31
        have hd31 : PEq (.bool false) (D 6) w43 ∧ True := hd31
        obtain ⟨d71, -⟩ := hd31
        refine dg_sub (E' := [(11, (.bool false)), (2, (.pointer (some p1)))]) ⟨(congrArg some d71), rfl, trivial⟩ ?_
        exact dg_off rfl rfl rfl rfl ⟨BX.refl _ _, rfl⟩
      · intro w44 D hS32 hd32
        have hl44 := Le.no M hS32
        have hC44 := hC2.no hS32
        have hd32 : PEq undef (D 11) w44 ∧ PEq (.bool false) (D 6) w44 ∧ True := hd32
        obtain ⟨d72, d73, -⟩ := hd32
        refine dg_sub (E' := [(16, undef), (11, (.bool false))]) ⟨(congrArg some d72), (congrArg some d73), trivial⟩ ?_
        exact dg_off rfl rfl rfl rfl ⟨BX.refl _ _, rfl⟩
      · intro w45 D hS33 hd33
        have hl45 := Le.no M hS33
        have hC45 := hC2.no hS33
        have hd33 : PEq (.bool false) (D 6) w45 ∧ True := hd33
        obtain ⟨d74, -⟩ := hd33
        refine dg_sub (E' := [(11, (.bool false)), (2, (.pointer (some p1)))]) ⟨(congrArg some d74), rfl, trivial⟩ ?_
        exact dg_off rfl rfl rfl rfl ⟨BX.refl _ _, rfl⟩
      · intro w46 D hS34 hd34
        have hl46 := Le.no M hS34
        have hC46 := hC2.no hS34
        have hd34 : PEq undef (D 13) w46 ∧ PEq (.bool false) (D 6) w46 ∧ True := hd34
        obtain ⟨d75, d76, -⟩ := hd34
        refine dg_sub (E' := [(18, undef), (11, (.bool false))]) ⟨(congrArg some d75), (congrArg some d76), trivial⟩ ?_
        exact dg_off rfl rfl rfl rfl ⟨BX.refl _ _, rfl⟩
      · intro w47 D hS35 hd35
        have hl47 := Le.no M hS35
        have hC47 := hC2.no hS35
        have hd35 : PEq undef (D 10) w47 ∧ PEq undef (D 12) w47 ∧ PEq undef (D 14) w47 ∧ PEq undef (D 10) w47 ∧ PEq (.bool false) (D 6) w47 ∧ True := hd35
        obtain ⟨d77, d78, d79, d80, d81, -⟩ := hd35
        refine dg_sub (E' := [(15, undef), (17, undef), (19, undef), (11, (.bool false))]) ⟨(congrArg some d77), (congrArg some d78), (congrArg some d79), (congrArg some d81), trivial⟩ ?_
        exact dg_off rfl rfl rfl rfl ⟨BX.refl _ _, rfl⟩
      · intro w48 D hS36 hd36
        have hl48 := Le.no M hS36
        have hC48 := hC2.no hS36
        have hd36 : PEq (.bool false) (D 6) w48 ∧ True := hd36
        obtain ⟨d82, -⟩ := hd36
        refine dg_sub (E' := [(11, (.bool false)), (2, (.pointer (some p1)))]) ⟨(congrArg some d82), rfl, trivial⟩ ?_
        exact dg_off rfl rfl rfl rfl ⟨BX.refl _ _, rfl⟩
      · intro w49 D hS37 hd37
        have hl49 := Le.no M hS37
        have hC49 := hC2.no hS37
        have hd37 : PEq undef (D 16) w49 ∧ PEq (.bool false) (D 6) w49 ∧ True := hd37
        obtain ⟨d83, d84, -⟩ := hd37
        refine dg_sub (E' := [(21, undef), (11, (.bool false))]) ⟨(congrArg some d83), (congrArg some d84), trivial⟩ ?_
        exact dg_off rfl rfl rfl rfl ⟨BX.refl _ _, rfl⟩
      · intro w50 D hS38 hd38
        have hl50 := Le.no M hS38
        have hC50 := hC2.no hS38
        have hd38 : PV RTest M a_t (D 0) w50 ∧ PEq (.bool true) (D 1) w50 ∧ PEq (.bool true) (D 2) w50 ∧ PV RPacket M a_p (D 3) w50 ∧ PEq (.bool false) (D 4) w50 ∧ PEq (.bool false) (D 5) w50 ∧ PEq (.bool false) (D 6) w50 ∧ PEq undef (D 7) w50 ∧ PEq undef (D 8) w50 ∧ PEq undef (D 9) w50 ∧ PEq undef (D 10) w50 ∧ PEq undef (D 11) w50 ∧ PEq undef (D 12) w50 ∧ PEq undef (D 13) w50 ∧ PEq undef (D 14) w50 ∧ PEq undef (D 15) w50 ∧ PEq undef (D 16) w50 ∧ PEq undef (D 17) w50 ∧ True := hd38
        obtain ⟨-, -, -, -, -, -, d91, -, -, -, -, -, -, -, -, d100, -, d102, -⟩ := hd38
        refine lw_sub (E' := [(11, (.bool false)), (20, undef), (22, undef), (2, (.pointer (some p1))), (3, (.pointer (some p2))), (4, (.bool false))]) ⟨(congrArg some d91), (congrArg some d100), (congrArg some d102), rfl, rfl, rfl, trivial⟩ ?_
        refine lw_off rfl rfl rfl rfl rfl rfl ?_
        refine lw_op rfl rfl rfl (ow_pickF rfl rfl rfl ?_)
        refine lw_op rfl rfl rfl (ow_assign rfl rfl ?_)
        refine lw_nil ?_
        refine ew_then ?_
        refine cw_ret ?_
        obtain rfl := Option.some.inj h
        exact ew_ret (res1 rfl (.tmp rfl)) ⟨_, rfl, ((vbool _)), hC50.bx⟩
  · subst hc1
    refine cw_sub (E' := [(2, (.pointer (some p1))), (3, (.pointer (some p2))), (4, (.bool false))]) ⟨rfl, rfl, rfl, trivial⟩ ?_
    refine cw_drawQ 18 [PV RTest M a_t, PEq (.bool false), PEq (.bool false), PEq undef, PEq undef, PEq (.bool false), PEq (.bool false), PEq undef, PEq undef, PEq undef, PEq undef, PEq undef, PEq undef, PEq undef, PEq undef, PEq undef, PEq undef, PEq undef] (by kernel_rfl) rfl (by kernel_rfl) ⟨PV.mono _ _ _, PEq.mono _, PEq.mono _, PEq.mono _, PEq.mono _, PEq.mono _, PEq.mono _, PEq.mono _, PEq.mono _, PEq.mono _, PEq.mono _, PEq.mono _, PEq.mono _, PEq.mono _, PEq.mono _, PEq.mono _, PEq.mono _, PEq.mono _, trivial⟩ ⟨?_, ?_, ?_, ?_, ?_, ?_, ?_, ?_, ?_, ?_, ?_, ?_, ?_, ?_, ?_, ?_, ?_, ?_, trivial⟩ ?_
    · intro w51 D hS39 hd39
      have hl51 := Le.no M hS39
      have hC51 := hC2.no hS39
      refine dg_sub (E' := [(2, (.pointer (some p1)))]) ⟨rfl, trivial⟩ ?_
      refine dg_plain rfl (ow_load (R := RTest) rfl rfl (ARep.mono (hl2.trans hl51) hp1) (Tryd.sizeOf186 _) (Tryd.isAgg186 _) fun v32 hv32 => ?_)
      exact ⟨BX.refl _ _, hv32⟩
    · intro w52 D hS40 hd40
      have hl52 := Le.no M hS40
      have hC52 := hC2.no hS40
      have hd40 : PV RTest M a_t (D 0) w52 ∧ True := hd40
      obtain ⟨d103, -⟩ := hd40
      obtain ⟨v33, hq10⟩ : ∃ v, (D 0) = v := ⟨_, rfl⟩
      rw [hq10] at d103
      refine dg_sub (E' := [(5, v33)]) ⟨(congrArg some hq10), trivial⟩ ?_
      refine dg_plain rfl (ow_call rfl rfl Tryd.call138 (w_spec_TestValid (hG.mono ((hl1.trans hl2).trans hl52)) hC52.old d103 hx1) fun v34 w53 hv34 => ?_)
      obtain ⟨hv34, hb13⟩ := hv34
      have hl53 := Le.no M hb13
      have hC53 := hC52.no hb13
      obtain rfl := vbool_eq hv34
      exact ⟨hb13, rfl⟩
    · intro w54 D hS41 hd41
      have hl54 := Le.no M hS41
      have hC54 := hC2.no hS41
      have hd41 : PEq (.bool false) (D 1) w54 ∧ PEq (.bool false) (D 1) w54 ∧ True := hd41
      obtain ⟨d104, d105, -⟩ := hd41
      refine dg_sub (E' := [(6, (.bool false))]) ⟨(congrArg some d104), trivial⟩ ?_
      refine dg_plain rfl (ow_move rfl rfl ?_)
      exact ⟨BX.refl _ _, rfl⟩
    · intro w55 D hS42 hd42
      have hl55 := Le.no M hS42
      have hC55 := hC2.no hS42
      have hd42 : PEq (.bool false) (D 2) w55 ∧ True := hd42
      obtain ⟨d106, -⟩ := hd42
      refine dg_sub (E' := [(7, (.bool false)), (3, (.pointer (some p2)))]) ⟨(congrArg some d106), rfl, trivial⟩ ?_
      exact dg_off rfl rfl rfl rfl ⟨BX.refl _ _, rfl⟩
    · intro w56 D hS43 hd43
      have hl56 := Le.no M hS43
      have hC56 := hC2.no hS43
      have hd43 : PEq undef (D 3) w56 ∧ PEq (.bool false) (D 2) w56 ∧ PEq (.bool false) (D 2) w56 ∧ True := hd43
      obtain ⟨d107, d108, d109, -⟩ := hd43
      refine dg_sub (E' := [(8, undef), (7, (.bool false))]) ⟨(congrArg some d107), (congrArg some d108), trivial⟩ ?_
      exact dg_off rfl rfl rfl rfl ⟨BX.refl _ _, rfl⟩
    · intro w57 D hS44 hd44
      have hl57 := Le.no M hS44
      have hC57 := hC2.no hS44
      have hd44 : PEq (.bool false) (D 2) w57 ∧ PEq undef (D 4) w57 ∧ True := hd44
      obtain ⟨d110, d111, -⟩ := hd44
      refine dg_sub (E' := [(7, (.bool false)), (9, undef)]) ⟨(congrArg some d110), (congrArg some d111), trivial⟩ ?_
      refine dg_plain rfl (ow_pickF rfl rfl rfl ?_)
      exact ⟨BX.refl _ _, rfl⟩
    · intro w58 D hS45 hd45
      have hl58 := Le.no M hS45
      have hC58 := hC2.no hS45
      have hd45 : PEq (.bool false) (D 5) w58 ∧ PEq undef (D 4) w58 ∧ True := hd45
      obtain ⟨d112, d113, -⟩ := hd45
      refine dg_sub (E' := [(10, (.bool false))]) ⟨(congrArg some d112), trivial⟩ ?_
      refine dg_plain rfl (ow_move rfl rfl ?_)
      exact ⟨BX.refl _ _, rfl⟩
    · intro w59 D hS46 hd46
      have hl59 := Le.no M hS46
      have hC59 := hC2.no hS46
      have hd46 : PEq (.bool false) (D 6) w59 ∧ True := hd46
      obtain ⟨d114, -⟩ := hd46
      refine dg_sub (E' := [(11, (.bool false)), (3, (.pointer (some p2)))]) ⟨(congrArg some d114), rfl, trivial⟩ ?_
      exact dg_off rfl rfl rfl rfl ⟨BX.refl _ _, rfl⟩
    · intro w60 D hS47 hd47
      have hl60 := Le.no M hS47
      have hC60 := hC2.no hS47
      have hd47 : PEq (.bool false) (D 6) w60 ∧ True := hd47
      obtain ⟨d115, -⟩ := hd47
      refine dg_sub (E' := [(11, (.bool false)), (2, (.pointer (some p1)))]) ⟨(congrArg some d115), rfl, trivial⟩ ?_
      exact dg_off rfl rfl rfl rfl ⟨BX.refl _ _, rfl⟩
    · intro w61 D hS48 hd48
      have hl61 := Le.no M hS48
      have hC61 := hC2.no hS48
      have hd48 : PEq undef (D 8) w61 ∧ PEq (.bool false) (D 6) w61 ∧ True := hd48
      obtain ⟨d116, d117, -⟩ := hd48
      refine dg_sub (E' := [(13, undef), (11, (.bool false))]) ⟨(congrArg some d116), (congrArg some d117), trivial⟩ ?_
      exact dg_off rfl rfl rfl rfl ⟨BX.refl _ _, rfl⟩
    · intro w62 D hS49 hd49
      have hl62 := Le.no M hS49
      have hC62 := hC2.no hS49
      have hd49 : PEq undef (D 7) w62 ∧ PEq undef (D 9) w62 ∧ PEq (.bool false) (D 6) w62 ∧ PEq (.bool false) (D 6) w62 ∧ True := hd49
      obtain ⟨d118, d119, d120, d121, -⟩ := hd49
      refine dg_sub (E' := [(12, undef), (14, undef), (11, (.bool false))]) ⟨(congrArg some d118), (congrArg some d119), (congrArg some d120), trivial⟩ ?_
      exact dg_off rfl rfl rfl rfl ⟨BX.refl _ _, rfl⟩
    · intro w63 D hS50 hd50
      have hl63 := Le.no M hS50
      have hC63 := hC2.no hS50
      have hd50 : PEq (.bool false) (D 6) w63 ∧ True := hd50
      obtain ⟨d122, -⟩ := hd50
      refine dg_sub (E' := [(11, (.bool false)), (2, (.pointer (some p1)))]) ⟨(congrArg some d122), rfl, trivial⟩ ?_
      exact dg_off rfl rfl rfl rfl ⟨BX.refl _ _, rfl⟩
    · intro w64 D hS51 hd51
      have hl64 := Le.no M hS51
      have hC64 := hC2.no hS51
      have hd51 : PEq undef (D 11) w64 ∧ PEq (.bool false) (D 6) w64 ∧ True := hd51
      obtain ⟨d123, d124, -⟩ := hd51
      refine dg_sub (E' := [(16, undef), (11, (.bool false))]) ⟨(congrArg some d123), (congrArg some d124), trivial⟩ ?_
      exact dg_off rfl rfl rfl rfl ⟨BX.refl _ _, rfl⟩
    · intro w65 D hS52 hd52
      have hl65 := Le.no M hS52
      have hC65 := hC2.no hS52
      have hd52 : PEq (.bool false) (D 6) w65 ∧ True := hd52
      obtain ⟨d125, -⟩ := hd52
      refine dg_sub (E' := [(11, (.bool false)), (2, (.pointer (some p1)))]) ⟨(congrArg some d125), rfl, trivial⟩ ?_
      exact dg_off rfl rfl rfl rfl ⟨BX.refl _ _, rfl⟩
    · intro w66 D hS53 hd53
      have hl66 := Le.no M hS53
      have hC66 := hC2.no hS53
      have hd53 : PEq undef (D 13) w66 ∧ PEq (.bool false) (D 6) w66 ∧ True := hd53
      obtain ⟨d126, d127, -⟩ := hd53
      refine dg_sub (E' := [(18, undef), (11, (.bool false))]) ⟨(congrArg some d126), (congrArg some d127), trivial⟩ ?_
      exact dg_off rfl rfl rfl rfl ⟨BX.refl _ _, rfl⟩
    · intro w67 D hS54 hd54
      have hl67 := Le.no M hS54
      have hC67 := hC2.no hS54
      have hd54 : PEq undef (D 10) w67 ∧ PEq undef (D 12) w67 ∧ PEq undef (D 14) w67 ∧ PEq undef (D 10) w67 ∧ PEq (.bool false) (D 6) w67 ∧ True := hd54
      obtain ⟨d128, d129, d130, d131, d132, -⟩ := hd54
      refine dg_sub (E' := [(15, undef), (17, undef), (19, undef), (11, (.bool false))]) ⟨(congrArg some d128), (congrArg some d129), (congrArg some d130), (congrArg some d132), trivial⟩ ?_
      exact dg_off rfl rfl rfl rfl ⟨BX.refl _ _, rfl⟩
    · intro w68 D hS55 hd55
      have hl68 := Le.no M hS55
      have hC68 := hC2.no hS55
      have hd55 : PEq (.bool false) (D 6) w68 ∧ True := hd55
      obtain ⟨d133, -⟩ := hd55
      refine dg_sub (E' := [(11, (.bool false)), (2, (.pointer (some p1)))]) ⟨(congrArg some d133), rfl, trivial⟩ ?_
      exact dg_off rfl rfl rfl rfl ⟨BX.refl _ _, rfl⟩
    · intro w69 D hS56 hd56
      have hl69 := Le.no M hS56
      have hC69 := hC2.no hS56
      have hd56 : PEq undef (D 16) w69 ∧ PEq (.bool false) (D 6) w69 ∧ True := hd56
      obtain ⟨d134, d135, -⟩ := hd56
      refine dg_sub (E' := [(21, undef), (11, (.bool false))]) ⟨(congrArg some d134), (congrArg some d135), trivial⟩ ?_
      exact dg_off rfl rfl rfl rfl ⟨BX.refl _ _, rfl⟩
    · intro w70 D hS57 hd57
      have hl70 := Le.no M hS57
      have hC70 := hC2.no hS57
      have hd57 : PV RTest M a_t (D 0) w70 ∧ PEq (.bool false) (D 1) w70 ∧ PEq (.bool false) (D 2) w70 ∧ PEq undef (D 3) w70 ∧ PEq undef (D 4) w70 ∧ PEq (.bool false) (D 5) w70 ∧ PEq (.bool false) (D 6) w70 ∧ PEq undef (D 7) w70 ∧ PEq undef (D 8) w70 ∧ PEq undef (D 9) w70 ∧ PEq undef (D 10) w70 ∧ PEq undef (D 11) w70 ∧ PEq undef (D 12) w70 ∧ PEq undef (D 13) w70 ∧ PEq undef (D 14) w70 ∧ PEq undef (D 15) w70 ∧ PEq undef (D 16) w70 ∧ PEq undef (D 17) w70 ∧ True := hd57
      obtain ⟨-, -, -, -, -, -, d142, -, -, -, -, -, -, -, -, d151, -, d153, -⟩ := hd57
      refine lw_sub (E' := [(11, (.bool false)), (20, undef), (22, undef), (2, (.pointer (some p1))), (3, (.pointer (some p2))), (4, (.bool false))]) ⟨(congrArg some d142), (congrArg some d151), (congrArg some d153), rfl, rfl, rfl, trivial⟩ ?_
      refine lw_off rfl rfl rfl rfl rfl rfl ?_
      refine lw_op rfl rfl rfl (ow_pickF rfl rfl rfl ?_)
      refine lw_op rfl rfl rfl (ow_assign rfl rfl ?_)
      refine lw_nil ?_
      refine ew_then ?_
      refine cw_ret ?_
      obtain rfl := Option.some.inj h
      exact ew_ret (res1 rfl (.tmp rfl)) ⟨_, rfl, ((vbool _)), hC70.bx⟩

theorem w_spec_TestsHold {w : World} {M : Nat → Prop} (hG : ARep (RArr 4 RShape) w M shapes ⟨0, 0, none⟩) (hO : ∀ b, M b → b < w.heap.size) {v0p : Value} {a_list : List Test} (h0 : VRep (RSlice RTest) w M a_list v0p) {v1p : Value} {a_p : Packet} (h1 : VRep RPacket w M a_p v1p) {r : Bool} (h : F.spec_TestsHold a_list a_p = some r) :
    Calls Tryd.prog 101 [v0p, v1p].toArray w fun e w' => ∃ v, e = .returned v ∧ VRep RBool w' M r v ∧ BX No w w' := by
  have hC : Cx No w M w M := Cx.start hO (fun _ e => e.elim)
  refine walk (N := 25) Tryd.func101 rfl Tryd.ntmps101 rfl ?_
  refine cw_seq ?_
  refine cw_region ?_
  refine lw_op rfl rfl rfl (ow_box (R := RPacket) rfl rfl h1 hC fun p1 w1 hp1 hb1 hl1 hC1 => ?_)
  refine lw_op rfl rfl rfl (ow_assign rfl rfl ?_)
  refine lw_nil ?_
  refine ew_then ?_
  refine cw_seq ?_
  refine cw_seq ?_
  refine cw_region ?_
  refine lw_op rfl rfl rfl (ow_assign rfl rfl ?_)
  refine lw_nil ?_
  refine ew_then ?_
  replace h := bind_some h
  obtain ⟨lr1, hlr1, h⟩ := h
  refine cw_for hlr1 (fun s a w' => ∃ (M' : Nat → Prop), Fits 25 [(0, v0p), (3, (.pointer (some p1))), (5, (.int .i64 s))] a ∧ Le w1 M w' M' ∧ Cx No w M w' M') ?_ ?_ ?_
  · intro a ha
    exact ⟨M, ha.sub ⟨rfl, rfl, rfl, trivial⟩, Le.refl _ _, hC1⟩
  · rintro k1 a w2 sr1 ⟨M1, hF1, hl2, hC2⟩ hb2 hR1
    refine cw_at (E := [(0, v0p), (3, (.pointer (some p1))), (5, (.int .i64 k1))]) hF1 ?_
    refine cw_seq ?_
    refine cw_seq ?_
    refine cw_region ?_
    refine lw_op rfl rfl rfl (ow_move rfl rfl ?_)
    refine lw_op rfl rfl rfl (ow_move rfl rfl ?_)
    refine lw_op rfl rfl rfl (ow_len rfl rfl (VRep.mono (hl1.trans hl2) h0) Tryd.underlying74 rfl ?_)
    refine lw_op rfl rfl rfl (ow_lss rfl rfl rfl fun bb1 hbb1 => ?_)
    refine lw_nil ?_
    refine ew_then ?_
    replace hb2 := cond_some hb2
    rcases hb2 with ⟨hc1, hb2⟩ | ⟨hc1, hb2⟩
    · obtain rfl := hbb1.trans hc1
      refine cw_true rfl ?_
      refine cw_skip ?_
      refine ew_then ?_
      refine cw_seq ?_
      refine cw_block ?_
      refine cw_seq ?_
      replace hb2 := bind_some hb2
      obtain ⟨x1, hx1, hb2⟩ := hb2
      refine cw_sub (E' := [(0, v0p), (3, (.pointer (some p1))), (5, (.int .i64 k1))]) ⟨rfl, rfl, rfl, trivial⟩ ?_
      refine cw_drawQ 5 [PV (RSlice RTest) M1 a_list, PEq (.int .i64 k1), PA RTest M1 x1, PV RTest M1 x1, PV RPacket M1 a_p] (by kernel_rfl) rfl (by kernel_rfl) ⟨PV.mono _ _ _, PEq.mono _, PA.mono _ _ _, PV.mono _ _ _, PV.mono _ _ _, trivial⟩ ⟨?_, ?_, ?_, ?_, ?_, trivial⟩ ?_
      · intro w3 D hS1 hd1
        have hl3 := Le.no M1 hS1
        have hC3 := hC2.no hS1
        refine dg_sub (E' := [(0, v0p)]) ⟨rfl, trivial⟩ ?_
        refine dg_plain rfl (ow_move rfl rfl ?_)
        exact ⟨BX.refl _ _, (VRep.mono ((hl1.trans hl2).trans hl3) h0)⟩
      · intro w4 D hS2 hd2
        have hl4 := Le.no M1 hS2
        have hC4 := hC2.no hS2
        refine dg_sub (E' := [(5, (.int .i64 k1))]) ⟨rfl, trivial⟩ ?_
        refine dg_plain rfl (ow_move rfl rfl ?_)
        exact ⟨BX.refl _ _, rfl⟩
      · intro w5 D hS3 hd3
        have hl5 := Le.no M1 hS3
        have hC5 := hC2.no hS3
        have hd3 : PV (RSlice RTest) M1 a_list (D 0) w5 ∧ PEq (.int .i64 k1) (D 1) w5 ∧ True := hd3
        obtain ⟨d1, d2, -⟩ := hd3
        obtain ⟨v4, hq1⟩ : ∃ v, (D 0) = v := ⟨_, rfl⟩
        rw [hq1] at d1
        refine dg_sub (E' := [(12, v4), (13, (.int .i64 k1))]) ⟨(congrArg some hq1), (congrArg some d2), trivial⟩ ?_
        refine dg_plain rfl (ow_indexSlice (R := RTest) rfl rfl rfl d1 Tryd.underlying74 (Tryd.sizeOf186 _) hx1 fun p3 hp3 => ?_)
        exact ⟨BX.refl _ _, ⟨_, rfl, hp3⟩⟩
      · intro w6 D hS4 hd4
        have hl6 := Le.no M1 hS4
        have hC6 := hC2.no hS4
        have hd4 : PA RTest M1 x1 (D 2) w6 ∧ True := hd4
        obtain ⟨d3, -⟩ := hd4
        obtain ⟨p4, e1, ha1⟩ := d3
        refine dg_sub (E' := [(14, (.pointer (some p4)))]) ⟨(congrArg some e1), trivial⟩ ?_
        refine dg_plain rfl (ow_load (R := RTest) rfl rfl ha1 (Tryd.sizeOf186 _) (Tryd.isAgg186 _) fun v5 hv5 => ?_)
        exact ⟨BX.refl _ _, hv5⟩
      · intro w7 D hS5 hd5
        have hl7 := Le.no M1 hS5
        have hC7 := hC2.no hS5
        refine dg_sub (E' := [(3, (.pointer (some p1)))]) ⟨rfl, trivial⟩ ?_
        refine dg_plain rfl (ow_load (R := RPacket) rfl rfl (ARep.mono (hl2.trans hl7) hp1) (Tryd.sizeOf39 _) (Tryd.isAgg39 _) fun v6 hv6 => ?_)
        exact ⟨BX.refl _ _, hv6⟩
      · intro w8 D hS6 hd6
        have hl8 := Le.no M1 hS6
        have hC8 := hC2.no hS6
        have hd6 : PV (RSlice RTest) M1 a_list (D 0) w8 ∧ PEq (.int .i64 k1) (D 1) w8 ∧ PA RTest M1 x1 (D 2) w8 ∧ PV RTest M1 x1 (D 3) w8 ∧ PV RPacket M1 a_p (D 4) w8 ∧ True := hd6
        obtain ⟨-, -, -, d7, d8, -⟩ := hd6
        obtain ⟨v7, hq2⟩ : ∃ v, (D 3) = v := ⟨_, rfl⟩
        rw [hq2] at d7
        obtain ⟨v8, hq3⟩ : ∃ v, (D 4) = v := ⟨_, rfl⟩
        rw [hq3] at d8
        refine lw_sub (E' := [(15, v7), (16, v8), (0, v0p), (3, (.pointer (some p1))), (5, (.int .i64 k1))]) ⟨(congrArg some hq2), (congrArg some hq3), rfl, rfl, rfl, trivial⟩ ?_
        replace hb2 := bind_some hb2
        obtain ⟨x2, hx2, hb2⟩ := hb2
        refine lw_op rfl rfl rfl (ow_call rfl rfl Tryd.call140 (w_spec_TestHolds (hG.mono ((hl1.trans hl2).trans hl8)) hC8.old d7 d8 hx2) fun v9 w9 hv9 => ?_)
        obtain ⟨hv9, hb3⟩ := hv9
        have hl9 := Le.no M1 hb3
        have hC9 := hC8.no hb3
        obtain rfl := vbool_eq hv9
        refine lw_op rfl rfl rfl (ow_not rfl rfl ?_)
        refine lw_nil ?_
        refine ew_then ?_
        replace hb2 := cond_some hb2
        rcases hb2 with ⟨hc2, hb2⟩ | ⟨hc2, hb2⟩
        · subst hc2
          refine cw_false rfl ?_
          refine cw_skip ?_
          refine ew_blockN ?_
          refine ew_then ?_
          refine cw_region ?_
          refine lw_op rfl rfl rfl (ow_move rfl rfl ?_)
          refine lw_op rfl rfl rfl (ow_add rfl rfl rfl ?_)
          refine lw_op rfl rfl rfl (ow_assign rfl rfl ?_)
          refine lw_nil ?_
          refine ew_nxt (W (k1 + 1)) hb2 fun a ha => ⟨M1, ?_, ((hl2.trans hl8).trans hl9), hC9⟩
          exact ha.sub ⟨rfl, rfl, rfl, trivial⟩
        · subst hc2
          refine cw_true rfl ?_
          refine cw_seq ?_
          refine cw_region ?_
          refine lw_op rfl rfl rfl (ow_assign rfl rfl ?_)
          refine lw_nil ?_
          refine ew_then ?_
          refine cw_ret ?_
          refine ew_blockR ?_
          refine ew_thenR ?_
          refine ew_thenR ?_
          refine ew_blockR ?_
          refine ew_brkR ?_
          refine ew_thenR ?_
          have e2 := hR1 _ (Option.some.inj hb2).symm
          subst e2
          obtain rfl := Option.some.inj h
          exact ew_ret (res1 rfl (.tmp rfl)) ⟨_, rfl, ((vbool _)), hC9.bx⟩
    · obtain rfl := hbb1.trans hc1
      refine cw_false rfl ?_
      refine cw_exit ?_
      refine ew_thenX ?_
      refine ew_thenX ?_
      refine ew_blockX ?_
      refine ew_brk k1 hb2 fun a ha => ⟨M1, ?_, hl2, hC2⟩
      exact ha.sub ⟨rfl, rfl, rfl, trivial⟩
  · rintro k2 a w10 hlr2 ⟨M2, hF2, hl10, hC10⟩
    subst hlr2
    refine ew_at (E := [(0, v0p), (3, (.pointer (some p1))), (5, (.int .i64 k2))]) hF2 ?_
    refine ew_then ?_
    refine cw_seq ?_
    refine cw_region ?_
    refine lw_op rfl rfl rfl (ow_move rfl rfl ?_)
    replace h := bind_some h
    obtain ⟨x3, hx3, h⟩ := h
    refine lw_op rfl rfl rfl (ow_call rfl rfl Tryd.call102 (w_spec_TestsValid (hG.mono (hl1.trans hl10)) hC10.old (VRep.mono (hl1.trans hl10) h0) hx3) fun v11 w11 hv11 => ?_)
    obtain ⟨hv11, hb4⟩ := hv11
    have hl11 := Le.no M2 hb4
    have hC11 := hC10.no hb4
    obtain rfl := vbool_eq hv11
    refine lw_op rfl rfl rfl (ow_move rfl rfl ?_)
    replace h := cond_some h
    rcases h with ⟨hc3, h⟩ | ⟨hc3, h⟩
    · subst hc3
      refine lw_on rfl rfl rfl rfl rfl rfl (ow_load (R := RPacket) rfl rfl (ARep.mono (hl10.trans hl11) hp1) (Tryd.sizeOf39 _) (Tryd.isAgg39 _) fun v12 hv12 => ?_)
      replace h := bind_some h
      obtain ⟨x4, hx4, h⟩ := h
      refine lw_on rfl rfl rfl rfl rfl rfl (ow_call rfl rfl Tryd.call76 (w_spec_PacketValid (hG.mono ((hl1.trans hl10).trans hl11)) hC11.old hv12 hx4) fun v13 w12 hv13 => ?_)
      obtain ⟨hv13, hb5⟩ := hv13
      have hl12 := Le.no M2 hb5
      have hC12 := hC11.no hb5
      obtain rfl := vbool_eq hv13
      refine lw_op rfl rfl rfl (ow_pickT rfl rfl rfl ?_)
      refine lw_op rfl rfl rfl (ow_assign rfl rfl ?_)
      refine lw_nil ?_
      refine ew_then ?_
      refine cw_ret ?_
      obtain rfl := Option.some.inj h
      exact ew_ret (res1 rfl (.tmp rfl)) ⟨_, rfl, ((vbool _)), hC12.bx⟩
    · subst hc3
      refine lw_off rfl rfl rfl rfl rfl rfl ?_
      refine lw_off rfl rfl rfl rfl rfl rfl ?_
      refine lw_op rfl rfl rfl (ow_pickF rfl rfl rfl ?_)
      refine lw_op rfl rfl rfl (ow_assign rfl rfl ?_)
      refine lw_nil ?_
      refine ew_then ?_
      refine cw_ret ?_
      obtain rfl := Option.some.inj h
      exact ew_ret (res1 rfl (.tmp rfl)) ⟨_, rfl, ((vbool _)), hC11.bx⟩

theorem w_spec_l9Walk (n_ : Nat) : ∀ {w : World} {M : Nat → Prop} (hG : ARep (RArr 4 RShape) w M shapes ⟨0, 0, none⟩) (hO : ∀ b, M b → b < w.heap.size) {v0p : Value} {a_s : Ruleset} (h0 : VRep RRuleset w M a_s v0p) {a_chain : Int} {v2p : Value} {a_p : Packet} (h2 : VRep RPacket w M a_p v2p) {vs0 : Value} {a_0c : List Visit} (hr0p : OwnRow RVisit 0 171 w M a_0c vs0) {g : Nat} (hown : Own w g 123 #[vs0]) (hgM : M g) {r : Int × (List Visit)} (h : F.spec_l9Walk n_ a_s a_chain a_p a_0c = some r),
    Calls Tryd.prog 91 [v0p, (.int .i64 a_chain), v2p, (.pointer (some ⟨g, 0, none⟩))].toArray w fun e w' => ∃ v, e = .returned v ∧ VRep RInt w' M r.1 v ∧ ∃ (M' : Nat → Prop) (u0 : Value), Own w' g 123 #[u0] ∧ OwnRow RVisit 0 171 w' M' r.2 u0 ∧ Cx (fun b => b = g ∨ vs0.ownBlock = some b) w M w' M' ∧ (∀ b, u0.ownBlock = some b → w.heap.size ≤ b ∨ (fun b => b = g ∨ vs0.ownBlock = some b) b) := by
  induction n_ with
  | zero =>
    intro w M hG hO v0p a_s h0 a_chain v2p a_p h2 vs0 a_0c hr0p g hown hgM r h
    exact (Option.some_ne_none _ (show (none : Option (Int × (List Visit))) = some r from h).symm).elim
  | succ n_ ih =>
  intro w M hG hO v0p a_s h0 a_chain v2p a_p h2 vs0 a_0c hr0p g hown hgM r h
  obtain ⟨i171, hi171, hz171, hs171, hy171⟩ := info171
  have hX : ∀ b, (fun b => b = g ∨ vs0.ownBlock = some b) b → M b := fun b e => (e.elim (fun e => by rw [show b = g from e]; exact hgM) (fun e => (hr0p.mem b e)))
  have hC : Cx (fun b => b = g ∨ vs0.ownBlock = some b) w M w M := Cx.start hO hX
  have hge0p : ∀ b, vs0.ownBlock = some b → w.heap.size ≤ b ∨ (fun b => b = g ∨ vs0.ownBlock = some b) b := fun b e => .inr (.inr e)
  refine walk (N := 70) Tryd.func91 rfl Tryd.ntmps91 rfl ?_
  refine cw_seq ?_
  refine cw_region ?_
  refine lw_op rfl rfl rfl (ow_box (R := RRuleset) rfl rfl h0 hC fun p1 w1 hp1 hb1 hl1 hC1 => ?_)
  have ho1 := hown.no hb1
  have hr1 := hr0p.no hb1
  refine lw_op rfl rfl rfl (ow_box (R := RPacket) rfl rfl (VRep.mono hl1 h2) hC1 fun p2 w2 hp2 hb2 hl2 hC2 => ?_)
  have ho2 := ho1.no hb2
  have hr2 := hr1.no hb2
  refine lw_op rfl rfl rfl (ow_assign rfl rfl ?_)
  refine lw_nil ?_
  refine ew_then ?_
  refine cw_seq ?_
  refine cw_seq ?_
  refine cw_region ?_
  refine lw_op rfl rfl rfl (ow_assign rfl rfl ?_)
  refine lw_nil ?_
  refine ew_then ?_
  replace h := bind_some h
  obtain ⟨lr1, hlr1, h⟩ := h
  refine cw_for hlr1 (fun s a w' => ∃ (M' : Nat → Prop) (v1c : Value), Fits 70 [(1, (.int .i64 a_chain)), (3, (.pointer (some ⟨g, 0, none⟩))), (4, (.pointer (some p1))), (6, (.pointer (some p2))), (9, (.int .i64 s.1))] a ∧ Le w2 M w' M' ∧ Cx (fun b => b = g ∨ vs0.ownBlock = some b) w M w' M' ∧ OwnRow RVisit 0 171 w' M' s.2 v1c ∧ Own w' g 123 #[v1c] ∧ M' g ∧ (∀ b, (Value.ownBlock v1c) = some b → w.heap.size ≤ b ∨ (fun b => b = g ∨ vs0.ownBlock = some b) b)) ?_ ?_ ?_
  · intro a ha
    exact ⟨M, vs0, ha.sub ⟨rfl, rfl, rfl, rfl, rfl, trivial⟩, Le.refl _ _, hC2, hr2, ho2, hgM, hge0p⟩
  · rintro ⟨k1, y1⟩ a w3 sr1 ⟨M1, v2, hF1, hl3, hC3, hw1, ho3, hm1, hge1⟩ hb3 hR1
    refine cw_at (E := [(1, (.int .i64 a_chain)), (3, (.pointer (some ⟨g, 0, none⟩))), (4, (.pointer (some p1))), (6, (.pointer (some p2))), (9, (.int .i64 k1))]) hF1 ?_
    refine cw_seq ?_
    refine cw_seq ?_
    refine cw_region ?_
    refine lw_op rfl rfl rfl (ow_move rfl rfl ?_)
    refine lw_op rfl rfl rfl (ow_fieldAddr rfl rfl Tryd.underlying57 rfl (Tryd.sizeOf55 _) ?_)
    refine lw_op rfl rfl rfl (ow_load (R := (RSlice (RSlice RRule))) rfl rfl (ARep.mono (hl2.trans hl3) (hp1.fld fld_Ruleset_Chains)) (Tryd.sizeOf55 _) (Tryd.isAgg55 _) fun v3 hv3 => ?_)
    refine lw_op rfl rfl rfl (ow_move rfl rfl ?_)
    replace hb3 := bind_some hb3
    obtain ⟨x1, hx1, hb3⟩ := hb3
    refine lw_op rfl rfl rfl (ow_indexSlice (R := (RSlice RRule)) rfl rfl rfl hv3 Tryd.underlying55 (Tryd.sizeOf86 _) hx1 fun p3 hp3 => ?_)
    refine lw_op rfl rfl rfl (ow_load (R := (RSlice RRule)) rfl rfl hp3 (Tryd.sizeOf86 _) (Tryd.isAgg86 _) fun v4 hv4 => ?_)
    refine lw_op rfl rfl rfl (ow_len rfl rfl hv4 Tryd.underlying86 rfl ?_)
    refine lw_op rfl rfl rfl (ow_lss rfl rfl rfl fun bb1 hbb1 => ?_)
    refine lw_nil ?_
    refine ew_then ?_
    replace hb3 := cond_some hb3
    rcases hb3 with ⟨hc1, hb3⟩ | ⟨hc1, hb3⟩
    · obtain rfl := hbb1.trans hc1
      refine cw_true rfl ?_
      refine cw_skip ?_
      refine ew_then ?_
      refine cw_seq ?_
      refine cw_block ?_
      refine cw_seq ?_
      refine cw_region ?_
      refine lw_op rfl rfl rfl (ow_fieldAddr rfl rfl Tryd.underlying57 rfl (Tryd.sizeOf55 _) ?_)
      refine lw_op rfl rfl rfl (ow_load (R := (RSlice (RSlice RRule))) rfl rfl (ARep.mono (hl2.trans hl3) (hp1.fld fld_Ruleset_Chains)) (Tryd.sizeOf55 _) (Tryd.isAgg55 _) fun v5 hv5 => ?_)
      refine lw_op rfl rfl rfl (ow_move rfl rfl ?_)
      refine lw_op rfl rfl rfl (ow_indexSlice (R := (RSlice RRule)) rfl rfl rfl hv5 Tryd.underlying55 (Tryd.sizeOf86 _) hx1 fun p4 hp4 => ?_)
      refine lw_op rfl rfl rfl (ow_load (R := (RSlice RRule)) rfl rfl hp4 (Tryd.sizeOf86 _) (Tryd.isAgg86 _) fun v6 hv6 => ?_)
      refine lw_op rfl rfl rfl (ow_move rfl rfl ?_)
      replace hb3 := bind_some hb3
      obtain ⟨x2, hx2, hb3⟩ := hb3
      refine lw_op rfl rfl rfl (ow_indexSlice (R := RRule) rfl rfl rfl hv6 Tryd.underlying86 (Tryd.sizeOf76 _) hx2 fun p5 hp5 => ?_)
      refine lw_op rfl rfl rfl (ow_load (R := RRule) rfl rfl hp5 (Tryd.sizeOf76 _) (Tryd.isAgg76 _) fun v7 hv7 => ?_)
      refine lw_allocStore (R := RRule) rfl rfl rfl rfl rfl rfl rfl Tryd.zeroValue76 Tryd.sizeOf76 rfl rfl rfl (by simp) hv7 hC3 fun p6 w4 hp6 hb4 hl4 hC4 => ?_
      have ho4 := ho3.no hb4
      have hr3 := hw1.no hb4
      refine lw_nil ?_
      refine ew_then ?_
      refine cw_seq ?_
      refine cw_seq ?_
      refine cw_region ?_
      refine lw_op rfl rfl rfl (ow_fieldAddr rfl rfl Tryd.underlying76 rfl (Tryd.sizeOf74 _) ?_)
      refine lw_op rfl rfl rfl (ow_load (R := (RSlice RTest)) rfl rfl (hp6.fld fld_Rule_Tests) (Tryd.sizeOf74 _) (Tryd.isAgg74 _) fun v8 hv8 => ?_)
      refine lw_op rfl rfl rfl (ow_load (R := RPacket) rfl rfl (ARep.mono (hl3.trans hl4) hp2) (Tryd.sizeOf39 _) (Tryd.isAgg39 _) fun v9 hv9 => ?_)
      replace hb3 := bind_some hb3
      obtain ⟨x3, hx3, hb3⟩ := hb3
      refine lw_op rfl rfl rfl (ow_call rfl rfl Tryd.call101 (w_spec_TestsHold (hG.mono (((hl1.trans hl2).trans hl3).trans hl4)) hC4.old hv8 hv9 hx3) fun v10 w5 hv10 => ?_)
      obtain ⟨hv10, hb5⟩ := hv10
      have hl5 := Le.no M1 hb5
      have hC5 := hC4.no hb5
      have ho5 := ho4.no hb5
      have hr4 := hr3.no hb5
      obtain rfl := vbool_eq hv10
      refine lw_op rfl rfl rfl (ow_not rfl rfl ?_)
      refine lw_nil ?_
      refine ew_then ?_
      replace hb3 := cond_some hb3
      rcases hb3 with ⟨hc2, hb3⟩ | ⟨hc2, hb3⟩
      · subst hc2
        refine cw_false rfl ?_
        refine cw_skip ?_
        refine ew_then ?_
        refine cw_seq ?_
        refine cw_seq ?_
        refine cw_region ?_
        refine lw_op rfl rfl rfl (ow_move rfl rfl ?_)
        refine lw_op rfl rfl rfl (ow_nilCheck rfl rfl ?_)
        refine lw_op rfl rfl rfl (ow_loadOwn1 rfl rfl rfl ho5 (Tryd.isAgg123 _) rfl ?_)
        refine lw_op rfl rfl rfl (ow_lenOwn rfl rfl hr4 Tryd.underlying123 ?_)
        refine lw_op rfl rfl rfl (ow_lss rfl rfl rfl fun bb2 hbb2 => ?_)
        refine lw_nil ?_
        refine ew_then ?_
        replace hb3 := cond_some hb3
        rcases hb3 with ⟨hc3, hb3⟩ | ⟨hc3, hb3⟩
        · obtain rfl := hbb2.trans hc3
          refine cw_true rfl ?_
          refine cw_region ?_
          refine lw_op rfl rfl rfl (ow_move rfl rfl ?_)
          refine lw_op rfl rfl rfl (ow_move rfl rfl ?_)
          refine lw_op rfl rfl rfl (ow_nilCheck rfl rfl ?_)
          refine lw_op rfl rfl rfl (ow_loadOwn1 rfl rfl rfl ho5 (Tryd.isAgg123 _) rfl ?_)
          refine lw_op rfl rfl rfl (ow_move rfl rfl ?_)
          refine lw_op rfl rfl rfl (ow_move rfl rfl ?_)
          refine lw_op rfl rfl rfl (ow_build (v := .agg #[(.int .i64 a_chain), (.int .i64 k1)]) rfl rfl (by kernel_rfl) ?_)
          have hw2 : VRep RVisit w5 M1 ({ Chain := a_chain, Place := k1 } : Visit) (.agg #[(.int .i64 a_chain), (.int .i64 k1)]) := shut_Visit
          refine lw_op rfl rfl rfl (ow_buildSlice (R := RVisit) (xs := [({ Chain := a_chain, Place := k1 } : Visit)]) (cs := #[(.int .i64 a_chain), (.int .i64 k1)]) (e := 171) rfl rfl (by kernel_rfl) rfl rfl ⟨_, _, rfl, hw2.cells, rfl⟩ hC5 fun p7 w6 hw3 hb6 hl6 hC6 => ?_)
          have ho6 := ho5.no hb6
          have hr5 := hr4.no hb6
          replace hb3 := bind_some hb3
          obtain ⟨z1, hz1, hb3⟩ := hb3
          refine lw_op rfl rfl rfl (ow_appendX (R := RVisit) (B := 0) rfl rfl rfl rfl Tryd.underlying123 hi171 hz171 hs171 hy171 rfl rfl rfl rfl hr5 hw3 hz1 hC6 (Nat.zero_le _) hge1 fun v11 w7 M2 hr6 hb7 hl7 hC7 hM1 hat1 => ?_)
          have ho7 := ho6.go hb7 (fun e => (orow_ne hr5 ho6 (by decide)) e)
          have hm2 := hM1 _ hm1
          have hge2 := ge_app hge1 hat1 hC6
          refine lw_op rfl rfl rfl (ow_nilCheck rfl rfl ?_)
          obtain ⟨A1, c1, rfl⟩ := hr6.len
          refine lw_op0 rfl rfl (ow_store (X := (fun b => b = g ∨ vs0.ownBlock = some b)) (us := [(.slice A1 z1.length c1)]) (cs' := #[(.slice A1 z1.length c1)]) rfl rfl rfl rfl ho7 (Tryd.sizeOf123 _) rfl rfl rfl rfl hm2 (.inr (.inl rfl)) rfl hC7 fun w8 ho8 hb8 hl8 hC8 => ?_)
          have hr7 := hr6.go hb8 (fun k hk e => (orow_ne hr6 ho7 (by decide)) (hk.trans (congrArg some e))) hl8 (fun _ h => h)
          refine lw_nil ?_
          refine ew_then ?_
          refine cw_seq ?_
          refine cw_region ?_
          refine lw_op rfl rfl rfl (ow_fieldAddr rfl rfl Tryd.underlying76 rfl (Tryd.sizeOf3 _) ?_)
          refine lw_op rfl rfl rfl (ow_load (R := RInt) rfl rfl (ARep.mono (((hl5.trans hl6).trans hl7).trans hl8) (hp6.fld fld_Rule_Action)) (Tryd.sizeOf3 _) (Tryd.isAgg3 _) fun v12 hv12 => ?_)
          obtain rfl := vint_eq hv12
          refine lw_nil ?_
          refine ew_then ?_
          refine cw_block ?_
          refine cw_seq ?_
          refine cw_seq ?_
          refine cw_region ?_
          refine lw_op rfl rfl rfl (ow_eqlI rfl rfl rfl fun bb3 hbb3 => ?_)
          refine lw_op rfl rfl rfl (ow_assign rfl rfl ?_)
          refine lw_nil ?_
          refine ew_then ?_
          replace hb3 := cond_some hb3
          rcases hb3 with ⟨hc4, hb3⟩ | ⟨hc4, hb3⟩
          · obtain rfl := hbb3.trans hc4
            refine cw_true rfl ?_
            refine cw_skip ?_
            refine ew_then ?_
            refine cw_true rfl ?_
            refine cw_seq ?_
            refine cw_region ?_
            refine lw_op rfl rfl rfl (ow_fieldAddr rfl rfl Tryd.underlying76 rfl (Tryd.sizeOf3 _) ?_)
            refine lw_op rfl rfl rfl (ow_load (R := RInt) rfl rfl (ARep.mono (((hl5.trans hl6).trans hl7).trans hl8) (hp6.fld fld_Rule_Action)) (Tryd.sizeOf3 _) (Tryd.isAgg3 _) fun v13 hv13 => ?_)
            obtain rfl := vint_eq hv13
            refine lw_op rfl rfl rfl (ow_assign rfl rfl ?_)
            refine lw_nil ?_
            refine ew_then ?_
            refine cw_ret ?_
            refine ew_blockR ?_
            refine ew_blockR ?_
            refine ew_thenR ?_
            refine ew_thenR ?_
            refine ew_blockR ?_
            refine ew_brkR ?_
            refine ew_thenR ?_
            have e1 := hR1 _ (Option.some.inj hb3).symm
            subst e1
            obtain rfl := Option.some.inj h
            exact ew_ret (res1 rfl (.tmp rfl)) ⟨_, rfl, ((vint _)), M2, (.slice A1 z1.length c1), ho8, hr7, hC8, hge2⟩
          · obtain rfl := hbb3.trans hc4
            refine cw_false rfl ?_
            refine cw_region ?_
            refine lw_op rfl rfl rfl (ow_eqlI rfl rfl rfl fun bb4 hbb4 => ?_)
            refine lw_op rfl rfl rfl (ow_assign rfl rfl ?_)
            refine lw_nil ?_
            refine ew_then ?_
            replace hb3 := cond_some hb3
            rcases hb3 with ⟨hc5, hb3⟩ | ⟨hc5, hb3⟩
            · obtain rfl := hbb4.trans hc5
              refine cw_true rfl ?_
              refine cw_seq ?_
              refine cw_region ?_
              refine lw_op rfl rfl rfl (ow_fieldAddr rfl rfl Tryd.underlying76 rfl (Tryd.sizeOf3 _) ?_)
              refine lw_op rfl rfl rfl (ow_load (R := RInt) rfl rfl (ARep.mono (((hl5.trans hl6).trans hl7).trans hl8) (hp6.fld fld_Rule_Action)) (Tryd.sizeOf3 _) (Tryd.isAgg3 _) fun v14 hv14 => ?_)
              obtain rfl := vint_eq hv14
              refine lw_op rfl rfl rfl (ow_assign rfl rfl ?_)
              refine lw_nil ?_
              refine ew_then ?_
              refine cw_ret ?_
              refine ew_blockR ?_
              refine ew_blockR ?_
              refine ew_thenR ?_
              refine ew_thenR ?_
              refine ew_blockR ?_
              refine ew_brkR ?_
              refine ew_thenR ?_
              have e2 := hR1 _ (Option.some.inj hb3).symm
              subst e2
              obtain rfl := Option.some.inj h
              exact ew_ret (res1 rfl (.tmp rfl)) ⟨_, rfl, ((vint _)), M2, (.slice A1 z1.length c1), ho8, hr7, hC8, hge2⟩
            · obtain rfl := hbb4.trans hc5
              refine cw_false rfl ?_
              refine cw_seq ?_
              refine cw_region ?_
              refine lw_op rfl rfl rfl (ow_eqlI rfl rfl rfl fun bb5 hbb5 => ?_)
              refine lw_op rfl rfl rfl (ow_assign rfl rfl ?_)
              refine lw_nil ?_
              refine ew_then ?_
              replace hb3 := cond_some hb3
              rcases hb3 with ⟨hc6, hb3⟩ | ⟨hc6, hb3⟩
              · obtain rfl := hbb5.trans hc6
                refine cw_true rfl ?_
                refine cw_seq ?_
                refine cw_region ?_
                refine lw_op rfl rfl rfl (ow_assign rfl rfl ?_)
                refine lw_nil ?_
                refine ew_then ?_
                refine cw_ret ?_
                refine ew_blockR ?_
                refine ew_blockR ?_
                refine ew_thenR ?_
                refine ew_thenR ?_
                refine ew_blockR ?_
                refine ew_brkR ?_
                refine ew_thenR ?_
                have e3 := hR1 _ (Option.some.inj hb3).symm
                subst e3
                obtain rfl := Option.some.inj h
                exact ew_ret (res1 rfl (.tmp rfl)) ⟨_, rfl, ((vint _)), M2, (.slice A1 z1.length c1), ho8, hr7, hC8, hge2⟩
              · obtain rfl := hbb5.trans hc6
                refine cw_false rfl ?_
                refine cw_seq ?_
                refine cw_region ?_
                refine lw_op rfl rfl rfl (ow_eqlI rfl rfl rfl fun bb6 hbb6 => ?_)
                refine lw_op rfl rfl rfl (ow_assign rfl rfl ?_)
                refine lw_nil ?_
                refine ew_then ?_
                replace hb3 := cond_some hb3
                rcases hb3 with ⟨hc7, hb3⟩ | ⟨hc7, hb3⟩
                · obtain rfl := hbb6.trans hc7
                  refine cw_true rfl ?_
                  refine cw_seq ?_
                  refine cw_region ?_
                  refine lw_op rfl rfl rfl (ow_load (R := RRuleset) rfl rfl (ARep.mono ((((((hl2.trans hl3).trans hl4).trans hl5).trans hl6).trans hl7).trans hl8) hp1) (Tryd.sizeOf57 _) (Tryd.isAgg57 _) fun v15 hv15 => ?_)
                  refine lw_op rfl rfl rfl (ow_fieldAddr rfl rfl Tryd.underlying76 rfl (Tryd.sizeOf3 _) ?_)
                  refine lw_op rfl rfl rfl (ow_load (R := RInt) rfl rfl (ARep.mono (((hl5.trans hl6).trans hl7).trans hl8) (hp6.fld fld_Rule_Chain)) (Tryd.sizeOf3 _) (Tryd.isAgg3 _) fun v16 hv16 => ?_)
                  obtain rfl := vint_eq hv16
                  refine lw_op rfl rfl rfl (ow_load (R := RPacket) rfl rfl (ARep.mono (((((hl3.trans hl4).trans hl5).trans hl6).trans hl7).trans hl8) hp2) (Tryd.sizeOf39 _) (Tryd.isAgg39 _) fun v17 hv17 => ?_)
                  refine lw_op rfl rfl rfl (ow_move rfl rfl ?_)
                  replace hb3 := bind_some hb3
                  obtain ⟨x4, hx4, hb3⟩ := hb3
                  refine lw_op rfl rfl rfl (ow_call rfl rfl Tryd.call91 (ih (hG.mono (((((((hl1.trans hl2).trans hl3).trans hl4).trans hl5).trans hl6).trans hl7).trans hl8)) hC8.old hv15 hv17 (hr7.base (Nat.zero_le _)) ho8 hm2 hx4) fun v18 w9 hv18 => ?_)
                  obtain ⟨hw4, M3, v19, ho9, hr8, hk1, hge3⟩ := hv18
                  have hY1 : ∀ b, (fun b => b = g ∨ (Value.ownBlock (.slice A1 z1.length c1)) = some b) b → w.heap.size ≤ b ∨ (fun b => b = g ∨ vs0.ownBlock = some b) b := fun b e => (e.elim (fun e => by rw [show b = g from e]; exact (.inr (.inl rfl))) (fun e => (hge2 b e)))
                  have hl9 := hk1.leY (fun b e => (e.elim (fun e => by rw [show b = g from e]; exact hm2) (fun e => (hr7.mem b e))))
                  have hC9 := hC8.trans2 hk1 hY1
                  have hb10 := hk1.bx
                  have hge4 : ∀ b, (Value.ownBlock v19) = some b → w.heap.size ≤ b ∨ (fun b => b = g ∨ vs0.ownBlock = some b) b := fun b e => (hge3 b e).elim (fun h => .inl (Nat.le_trans hC8.bx.size h)) (hY1 b)
                  have hm3 := hk1.sup _ hm2
                  obtain rfl := vint_eq hw4
                  refine lw_op rfl rfl rfl (ow_assign rfl rfl ?_)
                  refine lw_nil ?_
                  refine ew_then ?_
                  refine cw_seq ?_
                  refine cw_region ?_
                  refine lw_op rfl rfl rfl (ow_move rfl rfl ?_)
                  refine lw_op rfl rfl rfl (ow_neqI rfl rfl rfl fun bb7 hbb7 => ?_)
                  refine lw_nil ?_
                  refine ew_then ?_
                  replace hb3 := cond_some hb3
                  rcases hb3 with ⟨hc8, hb3⟩ | ⟨hc8, hb3⟩
                  · obtain rfl := hbb7.trans hc8
                    refine cw_true rfl ?_
                    refine cw_seq ?_
                    refine cw_region ?_
                    refine lw_op rfl rfl rfl (ow_move rfl rfl ?_)
                    refine lw_op rfl rfl rfl (ow_assign rfl rfl ?_)
                    refine lw_nil ?_
                    refine ew_then ?_
                    refine cw_ret ?_
                    refine ew_blockR ?_
                    refine ew_blockR ?_
                    refine ew_thenR ?_
                    refine ew_thenR ?_
                    refine ew_blockR ?_
                    refine ew_brkR ?_
                    refine ew_thenR ?_
                    have e4 := hR1 _ (Option.some.inj hb3).symm
                    subst e4
                    obtain rfl := Option.some.inj h
                    exact ew_ret (res1 rfl (.tmp rfl)) ⟨_, rfl, ((vint _)), M3, v19, ho9, hr8, hC9, hge4⟩
                  · obtain rfl := hbb7.trans hc8
                    refine cw_false rfl ?_
                    refine cw_skip ?_
                    refine ew_blockN ?_
                    refine ew_blockN ?_
                    refine ew_then ?_
                    refine cw_region ?_
                    refine lw_op rfl rfl rfl (ow_move rfl rfl ?_)
                    refine lw_op rfl rfl rfl (ow_add rfl rfl rfl ?_)
                    refine lw_op rfl rfl rfl (ow_assign rfl rfl ?_)
                    refine lw_nil ?_
                    refine ew_nxt ((W (k1 + 1)), x4.2) hb3 fun a ha => ⟨M3, v19, ?_, ((((((hl3.trans hl4).trans hl5).trans hl6).trans hl7).trans hl8).trans hl9), hC9, hr8, ho9, hm3, hge4⟩
                    exact ha.sub ⟨rfl, rfl, rfl, rfl, rfl, trivial⟩
                · obtain rfl := hbb6.trans hc7
                  refine cw_false rfl ?_
                  refine cw_skip ?_
                  refine ew_blockN ?_
                  refine ew_blockN ?_
                  refine ew_then ?_
                  refine cw_region ?_
                  refine lw_op rfl rfl rfl (ow_move rfl rfl ?_)
                  refine lw_op rfl rfl rfl (ow_add rfl rfl rfl ?_)
                  refine lw_op rfl rfl rfl (ow_assign rfl rfl ?_)
                  refine lw_nil ?_
                  refine ew_nxt ((W (k1 + 1)), z1) hb3 fun a ha => ⟨M2, (.slice A1 z1.length c1), ?_, (((((hl3.trans hl4).trans hl5).trans hl6).trans hl7).trans hl8), hC8, hr7, ho8, hm2, hge2⟩
                  exact ha.sub ⟨rfl, rfl, rfl, rfl, rfl, trivial⟩
        · obtain rfl := hbb2.trans hc3
          refine cw_false rfl ?_
          refine cw_skip ?_
          refine ew_then ?_
          refine cw_seq ?_
          refine cw_region ?_
          refine lw_op rfl rfl rfl (ow_fieldAddr rfl rfl Tryd.underlying76 rfl (Tryd.sizeOf3 _) ?_)
          refine lw_op rfl rfl rfl (ow_load (R := RInt) rfl rfl (ARep.mono hl5 (hp6.fld fld_Rule_Action)) (Tryd.sizeOf3 _) (Tryd.isAgg3 _) fun v20 hv20 => ?_)
          obtain rfl := vint_eq hv20
          refine lw_nil ?_
          refine ew_then ?_
          refine cw_block ?_
          refine cw_seq ?_
          refine cw_seq ?_
          refine cw_region ?_
          refine lw_op rfl rfl rfl (ow_eqlI rfl rfl rfl fun bb8 hbb8 => ?_)
          refine lw_op rfl rfl rfl (ow_assign rfl rfl ?_)
          refine lw_nil ?_
          refine ew_then ?_
          replace hb3 := cond_some hb3
          rcases hb3 with ⟨hc9, hb3⟩ | ⟨hc9, hb3⟩
          · obtain rfl := hbb8.trans hc9
            refine cw_true rfl ?_
            refine cw_skip ?_
            refine ew_then ?_
            refine cw_true rfl ?_
            refine cw_seq ?_
            refine cw_region ?_
            refine lw_op rfl rfl rfl (ow_fieldAddr rfl rfl Tryd.underlying76 rfl (Tryd.sizeOf3 _) ?_)
            refine lw_op rfl rfl rfl (ow_load (R := RInt) rfl rfl (ARep.mono hl5 (hp6.fld fld_Rule_Action)) (Tryd.sizeOf3 _) (Tryd.isAgg3 _) fun v21 hv21 => ?_)
            obtain rfl := vint_eq hv21
            refine lw_op rfl rfl rfl (ow_assign rfl rfl ?_)
            refine lw_nil ?_
            refine ew_then ?_
            refine cw_ret ?_
            refine ew_blockR ?_
            refine ew_blockR ?_
            refine ew_thenR ?_
            refine ew_thenR ?_
            refine ew_blockR ?_
            refine ew_brkR ?_
            refine ew_thenR ?_
            have e5 := hR1 _ (Option.some.inj hb3).symm
            subst e5
            obtain rfl := Option.some.inj h
            exact ew_ret (res1 rfl (.tmp rfl)) ⟨_, rfl, ((vint _)), M1, v2, ho5, hr4, hC5, hge1⟩
          · obtain rfl := hbb8.trans hc9
            refine cw_false rfl ?_
            refine cw_region ?_
            refine lw_op rfl rfl rfl (ow_eqlI rfl rfl rfl fun bb9 hbb9 => ?_)
            refine lw_op rfl rfl rfl (ow_assign rfl rfl ?_)
            refine lw_nil ?_
            refine ew_then ?_
            replace hb3 := cond_some hb3
            rcases hb3 with ⟨hc10, hb3⟩ | ⟨hc10, hb3⟩
            · obtain rfl := hbb9.trans hc10
              refine cw_true rfl ?_
              refine cw_seq ?_
              refine cw_region ?_
              refine lw_op rfl rfl rfl (ow_fieldAddr rfl rfl Tryd.underlying76 rfl (Tryd.sizeOf3 _) ?_)
              refine lw_op rfl rfl rfl (ow_load (R := RInt) rfl rfl (ARep.mono hl5 (hp6.fld fld_Rule_Action)) (Tryd.sizeOf3 _) (Tryd.isAgg3 _) fun v22 hv22 => ?_)
              obtain rfl := vint_eq hv22
              refine lw_op rfl rfl rfl (ow_assign rfl rfl ?_)
              refine lw_nil ?_
              refine ew_then ?_
              refine cw_ret ?_
              refine ew_blockR ?_
              refine ew_blockR ?_
              refine ew_thenR ?_
              refine ew_thenR ?_
              refine ew_blockR ?_
              refine ew_brkR ?_
              refine ew_thenR ?_
              have e6 := hR1 _ (Option.some.inj hb3).symm
              subst e6
              obtain rfl := Option.some.inj h
              exact ew_ret (res1 rfl (.tmp rfl)) ⟨_, rfl, ((vint _)), M1, v2, ho5, hr4, hC5, hge1⟩
            · obtain rfl := hbb9.trans hc10
              refine cw_false rfl ?_
              refine cw_seq ?_
              refine cw_region ?_
              refine lw_op rfl rfl rfl (ow_eqlI rfl rfl rfl fun bb10 hbb10 => ?_)
              refine lw_op rfl rfl rfl (ow_assign rfl rfl ?_)
              refine lw_nil ?_
              refine ew_then ?_
              replace hb3 := cond_some hb3
              rcases hb3 with ⟨hc11, hb3⟩ | ⟨hc11, hb3⟩
              · obtain rfl := hbb10.trans hc11
                refine cw_true rfl ?_
                refine cw_seq ?_
                refine cw_region ?_
                refine lw_op rfl rfl rfl (ow_assign rfl rfl ?_)
                refine lw_nil ?_
                refine ew_then ?_
                refine cw_ret ?_
                refine ew_blockR ?_
                refine ew_blockR ?_
                refine ew_thenR ?_
                refine ew_thenR ?_
                refine ew_blockR ?_
                refine ew_brkR ?_
                refine ew_thenR ?_
                have e7 := hR1 _ (Option.some.inj hb3).symm
                subst e7
                obtain rfl := Option.some.inj h
                exact ew_ret (res1 rfl (.tmp rfl)) ⟨_, rfl, ((vint _)), M1, v2, ho5, hr4, hC5, hge1⟩
              · obtain rfl := hbb10.trans hc11
                refine cw_false rfl ?_
                refine cw_seq ?_
                refine cw_region ?_
                refine lw_op rfl rfl rfl (ow_eqlI rfl rfl rfl fun bb11 hbb11 => ?_)
                refine lw_op rfl rfl rfl (ow_assign rfl rfl ?_)
                refine lw_nil ?_
                refine ew_then ?_
                replace hb3 := cond_some hb3
                rcases hb3 with ⟨hc12, hb3⟩ | ⟨hc12, hb3⟩
                · obtain rfl := hbb11.trans hc12
                  refine cw_true rfl ?_
                  refine cw_seq ?_
                  refine cw_region ?_
                  refine lw_op rfl rfl rfl (ow_load (R := RRuleset) rfl rfl (ARep.mono (((hl2.trans hl3).trans hl4).trans hl5) hp1) (Tryd.sizeOf57 _) (Tryd.isAgg57 _) fun v23 hv23 => ?_)
                  refine lw_op rfl rfl rfl (ow_fieldAddr rfl rfl Tryd.underlying76 rfl (Tryd.sizeOf3 _) ?_)
                  refine lw_op rfl rfl rfl (ow_load (R := RInt) rfl rfl (ARep.mono hl5 (hp6.fld fld_Rule_Chain)) (Tryd.sizeOf3 _) (Tryd.isAgg3 _) fun v24 hv24 => ?_)
                  obtain rfl := vint_eq hv24
                  refine lw_op rfl rfl rfl (ow_load (R := RPacket) rfl rfl (ARep.mono ((hl3.trans hl4).trans hl5) hp2) (Tryd.sizeOf39 _) (Tryd.isAgg39 _) fun v25 hv25 => ?_)
                  refine lw_op rfl rfl rfl (ow_move rfl rfl ?_)
                  replace hb3 := bind_some hb3
                  obtain ⟨x5, hx5, hb3⟩ := hb3
                  refine lw_op rfl rfl rfl (ow_call rfl rfl Tryd.call91 (ih (hG.mono ((((hl1.trans hl2).trans hl3).trans hl4).trans hl5)) hC5.old hv23 hv25 (hr4.base (Nat.zero_le _)) ho5 hm1 hx5) fun v26 w10 hv26 => ?_)
                  obtain ⟨hw5, M4, v27, ho10, hr9, hk2, hge5⟩ := hv26
                  have hY2 : ∀ b, (fun b => b = g ∨ (Value.ownBlock v2) = some b) b → w.heap.size ≤ b ∨ (fun b => b = g ∨ vs0.ownBlock = some b) b := fun b e => (e.elim (fun e => by rw [show b = g from e]; exact (.inr (.inl rfl))) (fun e => (hge1 b e)))
                  have hl10 := hk2.leY (fun b e => (e.elim (fun e => by rw [show b = g from e]; exact hm1) (fun e => (hr4.mem b e))))
                  have hC10 := hC5.trans2 hk2 hY2
                  have hb12 := hk2.bx
                  have hge6 : ∀ b, (Value.ownBlock v27) = some b → w.heap.size ≤ b ∨ (fun b => b = g ∨ vs0.ownBlock = some b) b := fun b e => (hge5 b e).elim (fun h => .inl (Nat.le_trans hC5.bx.size h)) (hY2 b)
                  have hm4 := hk2.sup _ hm1
                  obtain rfl := vint_eq hw5
                  refine lw_op rfl rfl rfl (ow_assign rfl rfl ?_)
                  refine lw_nil ?_
                  refine ew_then ?_
                  refine cw_seq ?_
                  refine cw_region ?_
                  refine lw_op rfl rfl rfl (ow_move rfl rfl ?_)
                  refine lw_op rfl rfl rfl (ow_neqI rfl rfl rfl fun bb12 hbb12 => ?_)
                  refine lw_nil ?_
                  refine ew_then ?_
                  replace hb3 := cond_some hb3
                  rcases hb3 with ⟨hc13, hb3⟩ | ⟨hc13, hb3⟩
                  · obtain rfl := hbb12.trans hc13
                    refine cw_true rfl ?_
                    refine cw_seq ?_
                    refine cw_region ?_
                    refine lw_op rfl rfl rfl (ow_move rfl rfl ?_)
                    refine lw_op rfl rfl rfl (ow_assign rfl rfl ?_)
                    refine lw_nil ?_
                    refine ew_then ?_
                    refine cw_ret ?_
                    refine ew_blockR ?_
                    refine ew_blockR ?_
                    refine ew_thenR ?_
                    refine ew_thenR ?_
                    refine ew_blockR ?_
                    refine ew_brkR ?_
                    refine ew_thenR ?_
                    have e8 := hR1 _ (Option.some.inj hb3).symm
                    subst e8
                    obtain rfl := Option.some.inj h
                    exact ew_ret (res1 rfl (.tmp rfl)) ⟨_, rfl, ((vint _)), M4, v27, ho10, hr9, hC10, hge6⟩
                  · obtain rfl := hbb12.trans hc13
                    refine cw_false rfl ?_
                    refine cw_skip ?_
                    refine ew_blockN ?_
                    refine ew_blockN ?_
                    refine ew_then ?_
                    refine cw_region ?_
                    refine lw_op rfl rfl rfl (ow_move rfl rfl ?_)
                    refine lw_op rfl rfl rfl (ow_add rfl rfl rfl ?_)
                    refine lw_op rfl rfl rfl (ow_assign rfl rfl ?_)
                    refine lw_nil ?_
                    refine ew_nxt ((W (k1 + 1)), x5.2) hb3 fun a ha => ⟨M4, v27, ?_, (((hl3.trans hl4).trans hl5).trans hl10), hC10, hr9, ho10, hm4, hge6⟩
                    exact ha.sub ⟨rfl, rfl, rfl, rfl, rfl, trivial⟩
                · obtain rfl := hbb11.trans hc12
                  refine cw_false rfl ?_
                  refine cw_skip ?_
                  refine ew_blockN ?_
                  refine ew_blockN ?_
                  refine ew_then ?_
                  refine cw_region ?_
                  refine lw_op rfl rfl rfl (ow_move rfl rfl ?_)
                  refine lw_op rfl rfl rfl (ow_add rfl rfl rfl ?_)
                  refine lw_op rfl rfl rfl (ow_assign rfl rfl ?_)
                  refine lw_nil ?_
                  refine ew_nxt ((W (k1 + 1)), y1) hb3 fun a ha => ⟨M1, v2, ?_, ((hl3.trans hl4).trans hl5), hC5, hr4, ho5, hm1, hge1⟩
                  exact ha.sub ⟨rfl, rfl, rfl, rfl, rfl, trivial⟩
      · subst hc2
        refine cw_true rfl ?_
        refine cw_exit ?_
        refine ew_thenX ?_
        refine ew_blockX ?_
        refine ew_then ?_
        refine cw_region ?_
        refine lw_op rfl rfl rfl (ow_move rfl rfl ?_)
        refine lw_op rfl rfl rfl (ow_add rfl rfl rfl ?_)
        refine lw_op rfl rfl rfl (ow_assign rfl rfl ?_)
        refine lw_nil ?_
        refine ew_nxt ((W (k1 + 1)), y1) hb3 fun a ha => ⟨M1, v2, ?_, ((hl3.trans hl4).trans hl5), hC5, hr4, ho5, hm1, hge1⟩
        exact ha.sub ⟨rfl, rfl, rfl, rfl, rfl, trivial⟩
    · obtain rfl := hbb1.trans hc1
      refine cw_false rfl ?_
      refine cw_exit ?_
      refine ew_thenX ?_
      refine ew_thenX ?_
      refine ew_blockX ?_
      refine ew_brk (k1, y1) hb3 fun a ha => ⟨M1, v2, ?_, hl3, hC3, hw1, ho3, hm1, hge1⟩
      exact ha.sub ⟨rfl, rfl, rfl, rfl, rfl, trivial⟩
  · rintro ⟨k2, y2⟩ a w11 hlr2 ⟨M5, v29, hF2, hl11, hC11, hw6, ho11, hm5, hge7⟩
    subst hlr2
    refine ew_at (E := [(1, (.int .i64 a_chain)), (3, (.pointer (some ⟨g, 0, none⟩))), (4, (.pointer (some p1))), (6, (.pointer (some p2))), (9, (.int .i64 k2))]) hF2 ?_
    refine ew_then ?_
    refine cw_seq ?_
    refine cw_region ?_
    refine lw_op rfl rfl rfl (ow_assign rfl rfl ?_)
    refine lw_nil ?_
    refine ew_then ?_
    refine cw_ret ?_
    obtain rfl := Option.some.inj h
    exact ew_ret (res1 rfl (.tmp rfl)) ⟨_, rfl, ((vint _)), M5, v29, ho11, hw6, hC11, hge7⟩

theorem w_spec_Judge {w : World} {M : Nat → Prop} (hG : ARep (RArr 4 RShape) w M shapes ⟨0, 0, none⟩) (hO : ∀ b, M b → b < w.heap.size) {v0p : Value} {a_s : Ruleset} (h0 : VRep RRuleset w M a_s v0p) {v1p : Value} {a_p : Packet} (h1 : VRep RPacket w M a_p v1p) {r : Bool} (h : F.spec_Judge a_s a_p = some r) :
    Calls Tryd.prog 42 [v0p, v1p].toArray w fun e w' => ∃ v, e = .returned v ∧ VRep RBool w' M r v ∧ BX No w w' := by
  have hC : Cx No w M w M := Cx.start hO (fun _ e => e.elim)
  refine walk (N := 29) Tryd.func42 rfl Tryd.ntmps42 rfl ?_
  refine cw_seq ?_
  refine cw_region ?_
  refine lw_op rfl rfl rfl (ow_box (R := RRuleset) rfl rfl h0 hC fun p1 w1 hp1 hb1 hl1 hC1 => ?_)
  refine lw_op rfl rfl rfl (ow_box (R := RPacket) rfl rfl (VRep.mono hl1 h1) hC1 fun p2 w2 hp2 hb2 hl2 hC2 => ?_)
  refine lw_op rfl rfl rfl (ow_assign rfl rfl ?_)
  refine lw_nil ?_
  refine ew_then ?_
  refine cw_seq ?_
  refine cw_seq ?_
  refine cw_region ?_
  refine lw_op rfl rfl rfl (ow_load (R := RRuleset) rfl rfl (ARep.mono hl2 hp1) (Tryd.sizeOf57 _) (Tryd.isAgg57 _) fun v1 hv1 => ?_)
  replace h := bind_some h
  obtain ⟨x1, hx1, h⟩ := h
  refine lw_op rfl rfl rfl (ow_call rfl rfl Tryd.call34 (w_spec_RulesetValid (hG.mono (hl1.trans hl2)) hC2.old hv1 hx1) fun v2 w3 hv2 => ?_)
  obtain ⟨hv2, hb3⟩ := hv2
  have hl3 := Le.no M hb3
  have hC3 := hC2.no hb3
  obtain rfl := vbool_eq hv2
  refine lw_op rfl rfl rfl (ow_not rfl rfl ?_)
  refine lw_op rfl rfl rfl (ow_move rfl rfl ?_)
  replace h := cond_some h
  rcases h with ⟨hc1, h⟩ | ⟨hc1, h⟩
  · subst hc1
    refine lw_on rfl rfl rfl rfl rfl rfl (ow_load (R := RPacket) rfl rfl (ARep.mono hl3 hp2) (Tryd.sizeOf39 _) (Tryd.isAgg39 _) fun v3 hv3 => ?_)
    replace h := bind_some h
    obtain ⟨x2, hx2, h⟩ := h
    refine lw_on rfl rfl rfl rfl rfl rfl (ow_call rfl rfl Tryd.call76 (w_spec_PacketValid (hG.mono ((hl1.trans hl2).trans hl3)) hC3.old hv3 hx2) fun v4 w4 hv4 => ?_)
    obtain ⟨hv4, hb4⟩ := hv4
    have hl4 := Le.no M hb4
    have hC4 := hC3.no hb4
    obtain rfl := vbool_eq hv4
    refine lw_on rfl rfl rfl rfl rfl rfl (ow_not rfl rfl ?_)
    refine lw_op rfl rfl rfl (ow_pickF rfl rfl rfl ?_)
    refine lw_nil ?_
    refine ew_then ?_
    replace h := cond_some h
    rcases h with ⟨hc2, h⟩ | ⟨hc2, h⟩
    · subst hc2
      refine cw_false rfl ?_
      refine cw_skip ?_
      refine ew_then ?_
      refine cw_seq ?_
      refine cw_region ?_
      refine lw_op rfl rfl rfl (ow_buildSlice0 (R := RVisit) (e := 171) rfl (by kernel_rfl) hC4 fun p3 w5 M1 hr1 hb5 hl5 hC5 hM1 hat1 => ?_)
      refine lw_op rfl rfl rfl (ow_alloc rfl (Tryd.zeroValue123 _) hC5 fun g1 w6 hg1 hg2 ho1 hb6 hl6 hC6 => ?_)
      have hr2 := hr1.add hb6 hg1
      have hm1 : (Add g1 M1) g1 := .inl rfl
      refine lw_op0 rfl rfl (ow_store (X := No) (us := [(.slice (some p3) 0 0)]) (cs' := #[(.slice (some p3) 0 0)]) rfl rfl rfl rfl ho1 (Tryd.sizeOf123 _) rfl rfl rfl rfl hm1 (.inl hg2) rfl hC6 fun w7 ho2 hb7 hl7 hC7 => ?_)
      have hr3 := hr2.go hb7 (fun k hk e => (orow_ne hr2 ho1 (by decide)) (hk.trans (congrArg some e))) hl7 (fun _ h => h)
      refine lw_nil ?_
      refine ew_then ?_
      refine cw_seq ?_
      refine cw_region ?_
      refine lw_op rfl rfl rfl (ow_load (R := RRuleset) rfl rfl (ARep.mono (((((hl2.trans hl3).trans hl4).trans hl5).trans hl6).trans hl7) hp1) (Tryd.sizeOf57 _) (Tryd.isAgg57 _) fun v5 hv5 => ?_)
      refine lw_op rfl rfl rfl (ow_load (R := RPacket) rfl rfl (ARep.mono ((((hl3.trans hl4).trans hl5).trans hl6).trans hl7) hp2) (Tryd.sizeOf39 _) (Tryd.isAgg39 _) fun v6 hv6 => ?_)
      replace h := bind_some h
      obtain ⟨x3, hx3, h⟩ := h
      refine lw_op rfl rfl rfl (ow_call rfl rfl Tryd.call91 (w_spec_l9Walk 10 (hG.mono ((((((hl1.trans hl2).trans hl3).trans hl4).trans hl5).trans hl6).trans hl7)) hC7.old hv5 hv6 (hr3.base (Nat.zero_le _)) ho2 hm1 hx3) fun v7 w8 hv7 => ?_)
      obtain ⟨hw1, M2, v8, ho3, hr4, hk1, hge1⟩ := hv7
      have hY1 : ∀ b, (fun b => b = g1 ∨ (Value.ownBlock (.slice (some p3) 0 0)) = some b) b → w.heap.size ≤ b ∨ No b := fun b e => (e.elim (fun e => by rw [show b = g1 from e]; exact (.inl hg2)) (fun e => ((fun b e => .inl (hr3.block e).1) b e)))
      have hl8 := hk1.leY (fun b e => (e.elim (fun e => by rw [show b = g1 from e]; exact hm1) (fun e => (hr3.mem b e))))
      have hC8 := hC7.trans2 hk1 hY1
      have hb9 := hk1.bx
      have hr5 := hr4.raise (B' := w.heap.size) (fun b e => (hge1 b e).elim (fun h => Nat.le_trans hC7.bx.size h) (fun e => (e.elim (fun e => by rw [show b = g1 from e]; exact hg2) (fun e => ((hr3.block e).1)))))
      have hm2 := hk1.sup _ hm1
      obtain rfl := vint_eq hw1
      refine lw_op rfl rfl rfl (ow_assign rfl rfl ?_)
      refine lw_nil ?_
      refine ew_then ?_
      refine cw_seq ?_
      refine cw_region ?_
      refine lw_op rfl rfl rfl (ow_move rfl rfl ?_)
      refine lw_op rfl rfl rfl (ow_eqlI rfl rfl rfl fun bb1 hbb1 => ?_)
      refine lw_op rfl rfl rfl (ow_move rfl rfl ?_)
      replace h := cond_some h
      rcases h with ⟨hc3, h⟩ | ⟨hc3, h⟩
      · obtain rfl := hbb1.trans hc3
        refine lw_off rfl rfl rfl rfl rfl rfl ?_
        refine lw_off rfl rfl rfl rfl rfl rfl ?_
        refine lw_off rfl rfl rfl rfl rfl rfl ?_
        refine lw_off' rfl rfl rfl rfl rfl rfl ?_
        refine lw_off' rfl rfl rfl rfl rfl rfl ?_
        refine lw_off rfl rfl rfl rfl rfl rfl ?_
        refine lw_op rfl rfl rfl (ow_pickT rfl rfl rfl ?_)
        refine lw_op rfl rfl rfl (ow_assign rfl rfl ?_)
        refine lw_nil ?_
        refine ew_then ?_
        refine cw_ret ?_
        obtain rfl := Option.some.inj h
        exact ew_ret (res1 rfl (.tmp rfl)) ⟨_, rfl, ((vbool _)), hC8.bx⟩
      · obtain rfl := hbb1.trans hc3
        refine lw_on rfl rfl rfl rfl rfl rfl (ow_move rfl rfl ?_)
        refine lw_on rfl rfl rfl rfl rfl rfl (ow_eqlI rfl rfl rfl fun bb2 hbb2 => ?_)
        refine lw_on rfl rfl rfl rfl rfl rfl (ow_move rfl rfl ?_)
        replace h := cond_some h
        rcases h with ⟨hc4, h⟩ | ⟨hc4, h⟩
        · obtain rfl := hbb2.trans hc4
          refine lw_on rfl rfl rfl rfl rfl rfl (ow_fieldAddr rfl rfl Tryd.underlying57 rfl (Tryd.sizeOf4 _) ?_)
          refine lw_on rfl rfl rfl rfl rfl rfl (ow_load (R := RBool) rfl rfl (ARep.mono ((((((hl2.trans hl3).trans hl4).trans hl5).trans hl6).trans hl7).trans hl8) (hp1.fld fld_Ruleset_Accept)) (Tryd.sizeOf4 _) (Tryd.isAgg4 _) fun v9 hv9 => ?_)
          obtain ⟨bb3, hbb3, rfl⟩ := vbool_ex hv9
          refine lw_on rfl rfl rfl rfl rfl rfl (ow_pickT rfl rfl rfl ?_)
          refine lw_op rfl rfl rfl (ow_pickF rfl rfl rfl ?_)
          refine lw_op rfl rfl rfl (ow_assign rfl rfl ?_)
          refine lw_nil ?_
          refine ew_then ?_
          refine cw_ret ?_
          obtain rfl := Option.some.inj h
          exact ew_ret (res1 rfl (.tmp rfl)) ⟨_, rfl, ((vbool_of hbb3)), hC8.bx⟩
        · obtain rfl := hbb2.trans hc4
          refine lw_off rfl rfl rfl rfl rfl rfl ?_
          refine lw_off rfl rfl rfl rfl rfl rfl ?_
          refine lw_on rfl rfl rfl rfl rfl rfl (ow_pickF rfl rfl rfl ?_)
          refine lw_op rfl rfl rfl (ow_pickF rfl rfl rfl ?_)
          refine lw_op rfl rfl rfl (ow_assign rfl rfl ?_)
          refine lw_nil ?_
          refine ew_then ?_
          refine cw_ret ?_
          obtain rfl := Option.some.inj h
          exact ew_ret (res1 rfl (.tmp rfl)) ⟨_, rfl, ((vbool _)), hC8.bx⟩
    · subst hc2
      refine cw_true rfl ?_
      refine cw_seq ?_
      refine cw_region ?_
      refine lw_op rfl rfl rfl (ow_assign rfl rfl ?_)
      refine lw_nil ?_
      refine ew_then ?_
      refine cw_ret ?_
      refine ew_thenR ?_
      obtain rfl := Option.some.inj h
      exact ew_ret (res1 rfl (.tmp rfl)) ⟨_, rfl, ((vbool _)), hC4.bx⟩
  · subst hc1
    refine lw_off rfl rfl rfl rfl rfl rfl ?_
    refine lw_off rfl rfl rfl rfl rfl rfl ?_
    refine lw_off rfl rfl rfl rfl rfl rfl ?_
    refine lw_op rfl rfl rfl (ow_pickT rfl rfl rfl ?_)
    refine lw_nil ?_
    refine ew_then ?_
    refine cw_true rfl ?_
    refine cw_seq ?_
    refine cw_region ?_
    refine lw_op rfl rfl rfl (ow_assign rfl rfl ?_)
    refine lw_nil ?_
    refine ew_then ?_
    refine cw_ret ?_
    refine ew_thenR ?_
    obtain rfl := Option.some.inj h
    exact ew_ret (res1 rfl (.tmp rfl)) ⟨_, rfl, ((vbool _)), hC3.bx⟩

theorem w_spec_JudgeAll {w : World} {M : Nat → Prop} (hG : ARep (RArr 4 RShape) w M shapes ⟨0, 0, none⟩) (hO : ∀ b, M b → b < w.heap.size) {v0p : Value} {a_s : Ruleset} (h0 : VRep RRuleset w M a_s v0p) {v1p : Value} {a_list : List Packet} (h1 : VRep (RSlice RPacket) w M a_list v1p) {r : Int} (h : F.spec_JudgeAll a_s a_list = some r) :
    Calls Tryd.prog 45 [v0p, v1p].toArray w fun e w' => ∃ v, e = .returned v ∧ VRep RInt w' M r v ∧ BX No w w' := by
  have hC : Cx No w M w M := Cx.start hO (fun _ e => e.elim)
  refine walk (N := 36) Tryd.func45 rfl Tryd.ntmps45 rfl ?_
  refine cw_seq ?_
  refine cw_region ?_
  refine lw_op rfl rfl rfl (ow_box (R := RRuleset) rfl rfl h0 hC fun p1 w1 hp1 hb1 hl1 hC1 => ?_)
  refine lw_op rfl rfl rfl (ow_assign rfl rfl ?_)
  refine lw_nil ?_
  refine ew_then ?_
  refine cw_seq ?_
  refine cw_region ?_
  refine lw_op rfl rfl rfl (ow_assign rfl rfl ?_)
  refine lw_nil ?_
  refine ew_then ?_
  refine cw_seq ?_
  refine cw_seq ?_
  refine cw_region ?_
  refine lw_op rfl rfl rfl (ow_assign rfl rfl ?_)
  refine lw_nil ?_
  refine ew_then ?_
  replace h := bind_some h
  obtain ⟨lr1, hlr1, h⟩ := h
  refine cw_for hlr1 (fun s a w' => ∃ (M' : Nat → Prop), Fits 36 [(1, v1p), (2, (.pointer (some p1))), (5, (.int .i64 s.1)), (6, (.int .i64 s.2))] a ∧ Le w1 M w' M' ∧ Cx No w M w' M') ?_ ?_ ?_
  · intro a ha
    exact ⟨M, ha.sub ⟨rfl, rfl, rfl, rfl, trivial⟩, Le.refl _ _, hC1⟩
  · rintro ⟨k1, k2⟩ a w2 sr1 ⟨M1, hF1, hl2, hC2⟩ hb2 hR1
    refine cw_at (E := [(1, v1p), (2, (.pointer (some p1))), (5, (.int .i64 k1)), (6, (.int .i64 k2))]) hF1 ?_
    refine cw_seq ?_
    refine cw_seq ?_
    refine cw_region ?_
    refine lw_op rfl rfl rfl (ow_move rfl rfl ?_)
    refine lw_op rfl rfl rfl (ow_move rfl rfl ?_)
    refine lw_op rfl rfl rfl (ow_len rfl rfl (VRep.mono (hl1.trans hl2) h1) Tryd.underlying69 rfl ?_)
    refine lw_op rfl rfl rfl (ow_lss rfl rfl rfl fun bb1 hbb1 => ?_)
    refine lw_nil ?_
    refine ew_then ?_
    replace hb2 := cond_some hb2
    rcases hb2 with ⟨hc1, hb2⟩ | ⟨hc1, hb2⟩
    · obtain rfl := hbb1.trans hc1
      refine cw_true rfl ?_
      refine cw_skip ?_
      refine ew_then ?_
      refine cw_seq ?_
      refine cw_block ?_
      refine cw_seq ?_
      refine cw_seq ?_
      refine cw_region ?_
      refine lw_op rfl rfl rfl (ow_move rfl rfl ?_)
      refine lw_op rfl rfl rfl (ow_move rfl rfl ?_)
      replace hb2 := bind_some hb2
      obtain ⟨x1, hx1, hb2⟩ := hb2
      refine lw_op rfl rfl rfl (ow_indexSlice (R := RPacket) rfl rfl rfl (VRep.mono (hl1.trans hl2) h1) Tryd.underlying69 (Tryd.sizeOf39 _) hx1 fun p2 hp2 => ?_)
      refine lw_op rfl rfl rfl (ow_load (R := RPacket) rfl rfl hp2 (Tryd.sizeOf39 _) (Tryd.isAgg39 _) fun v3 hv3 => ?_)
      replace hb2 := bind_some hb2
      obtain ⟨x2, hx2, hb2⟩ := hb2
      refine lw_op rfl rfl rfl (ow_call rfl rfl Tryd.call76 (w_spec_PacketValid (hG.mono (hl1.trans hl2)) hC2.old hv3 hx2) fun v4 w3 hv4 => ?_)
      obtain ⟨hv4, hb3⟩ := hv4
      have hl3 := Le.no M1 hb3
      have hC3 := hC2.no hb3
      obtain rfl := vbool_eq hv4
      refine lw_op rfl rfl rfl (ow_not rfl rfl ?_)
      refine lw_nil ?_
      refine ew_then ?_
      replace hb2 := cond_some hb2
      rcases hb2 with ⟨hc2, hb2⟩ | ⟨hc2, hb2⟩
      · subst hc2
        refine cw_false rfl ?_
        refine cw_skip ?_
        refine ew_then ?_
        refine cw_seq ?_
        refine cw_sub (E' := [(1, v1p), (2, (.pointer (some p1))), (5, (.int .i64 k1)), (6, (.int .i64 k2))]) ⟨rfl, rfl, rfl, rfl, trivial⟩ ?_
        refine cw_drawQ 5 [PV RRuleset M1 a_s, PV (RSlice RPacket) M1 a_list, PEq (.int .i64 k2), PA RPacket M1 x1, PV RPacket M1 x1] (by kernel_rfl) rfl (by kernel_rfl) ⟨PV.mono _ _ _, PV.mono _ _ _, PEq.mono _, PA.mono _ _ _, PV.mono _ _ _, trivial⟩ ⟨?_, ?_, ?_, ?_, ?_, trivial⟩ ?_
        · intro w4 D hS1 hd1
          have hl4 := Le.no M1 hS1
          have hC4 := hC3.no hS1
          refine dg_sub (E' := [(2, (.pointer (some p1)))]) ⟨rfl, trivial⟩ ?_
          refine dg_plain rfl (ow_load (R := RRuleset) rfl rfl (ARep.mono ((hl2.trans hl3).trans hl4) hp1) (Tryd.sizeOf57 _) (Tryd.isAgg57 _) fun v7 hv7 => ?_)
          exact ⟨BX.refl _ _, hv7⟩
        · intro w5 D hS2 hd2
          have hl5 := Le.no M1 hS2
          have hC5 := hC3.no hS2
          refine dg_sub (E' := [(1, v1p)]) ⟨rfl, trivial⟩ ?_
          refine dg_plain rfl (ow_move rfl rfl ?_)
          exact ⟨BX.refl _ _, (VRep.mono (((hl1.trans hl2).trans hl3).trans hl5) h1)⟩
        · intro w6 D hS3 hd3
          have hl6 := Le.no M1 hS3
          have hC6 := hC3.no hS3
          refine dg_sub (E' := [(6, (.int .i64 k2))]) ⟨rfl, trivial⟩ ?_
          refine dg_plain rfl (ow_move rfl rfl ?_)
          exact ⟨BX.refl _ _, rfl⟩
        · intro w7 D hS4 hd4
          have hl7 := Le.no M1 hS4
          have hC7 := hC3.no hS4
          have hd4 : PV (RSlice RPacket) M1 a_list (D 1) w7 ∧ PEq (.int .i64 k2) (D 2) w7 ∧ True := hd4
          obtain ⟨d1, d2, -⟩ := hd4
          obtain ⟨v8, hq1⟩ : ∃ v, (D 1) = v := ⟨_, rfl⟩
          rw [hq1] at d1
          refine dg_sub (E' := [(20, v8), (21, (.int .i64 k2))]) ⟨(congrArg some hq1), (congrArg some d2), trivial⟩ ?_
          refine dg_plain rfl (ow_indexSlice (R := RPacket) rfl rfl rfl d1 Tryd.underlying69 (Tryd.sizeOf39 _) hx1 fun p4 hp4 => ?_)
          exact ⟨BX.refl _ _, ⟨_, rfl, hp4⟩⟩
        · intro w8 D hS5 hd5
          have hl8 := Le.no M1 hS5
          have hC8 := hC3.no hS5
          have hd5 : PA RPacket M1 x1 (D 3) w8 ∧ True := hd5
          obtain ⟨d3, -⟩ := hd5
          obtain ⟨p5, e1, ha1⟩ := d3
          refine dg_sub (E' := [(22, (.pointer (some p5)))]) ⟨(congrArg some e1), trivial⟩ ?_
          refine dg_plain rfl (ow_load (R := RPacket) rfl rfl ha1 (Tryd.sizeOf39 _) (Tryd.isAgg39 _) fun v9 hv9 => ?_)
          exact ⟨BX.refl _ _, hv9⟩
        · intro w9 D hS6 hd6
          have hl9 := Le.no M1 hS6
          have hC9 := hC3.no hS6
          have hd6 : PV RRuleset M1 a_s (D 0) w9 ∧ PV (RSlice RPacket) M1 a_list (D 1) w9 ∧ PEq (.int .i64 k2) (D 2) w9 ∧ PA RPacket M1 x1 (D 3) w9 ∧ PV RPacket M1 x1 (D 4) w9 ∧ True := hd6
          obtain ⟨d4, -, -, -, d8, -⟩ := hd6
          obtain ⟨v10, hq2⟩ : ∃ v, (D 0) = v := ⟨_, rfl⟩
          rw [hq2] at d4
          obtain ⟨v11, hq3⟩ : ∃ v, (D 4) = v := ⟨_, rfl⟩
          rw [hq3] at d8
          refine lw_sub (E' := [(19, v10), (23, v11), (1, v1p), (2, (.pointer (some p1))), (5, (.int .i64 k1)), (6, (.int .i64 k2))]) ⟨(congrArg some hq2), (congrArg some hq3), rfl, rfl, rfl, rfl, trivial⟩ ?_
          replace hb2 := bind_some hb2
          obtain ⟨x3, hx3, hb2⟩ := hb2
          refine lw_op rfl rfl rfl (ow_call rfl rfl Tryd.call42 (w_spec_Judge (hG.mono (((hl1.trans hl2).trans hl3).trans hl9)) hC9.old d4 d8 hx3) fun v12 w10 hv12 => ?_)
          obtain ⟨hv12, hb4⟩ := hv12
          have hl10 := Le.no M1 hb4
          have hC10 := hC9.no hb4
          obtain rfl := vbool_eq hv12
          refine lw_nil ?_
          refine ew_then ?_
          replace hb2 := cond_some hb2
          rcases hb2 with ⟨hc3, hb2⟩ | ⟨hc3, hb2⟩
          · subst hc3
            refine cw_true rfl ?_
            refine cw_region ?_
            refine lw_op rfl rfl rfl (ow_move rfl rfl ?_)
            refine lw_op rfl rfl rfl (ow_add rfl rfl rfl ?_)
            refine lw_op rfl rfl rfl (ow_assign rfl rfl ?_)
            refine lw_nil ?_
            refine ew_blockN ?_
            refine ew_then ?_
            refine cw_region ?_
            refine lw_op rfl rfl rfl (ow_move rfl rfl ?_)
            refine lw_op rfl rfl rfl (ow_add rfl rfl rfl ?_)
            refine lw_op rfl rfl rfl (ow_assign rfl rfl ?_)
            refine lw_nil ?_
            refine ew_nxt ((W (k1 + 1)), (W (k2 + 1))) hb2 fun a ha => ⟨M1, ?_, (((hl2.trans hl3).trans hl9).trans hl10), hC10⟩
            exact ha.sub ⟨rfl, rfl, rfl, rfl, trivial⟩
          · subst hc3
            refine cw_false rfl ?_
            refine cw_skip ?_
            refine ew_blockN ?_
            refine ew_then ?_
            refine cw_region ?_
            refine lw_op rfl rfl rfl (ow_move rfl rfl ?_)
            refine lw_op rfl rfl rfl (ow_add rfl rfl rfl ?_)
            refine lw_op rfl rfl rfl (ow_assign rfl rfl ?_)
            refine lw_nil ?_
            refine ew_nxt (k1, (W (k2 + 1))) hb2 fun a ha => ⟨M1, ?_, (((hl2.trans hl3).trans hl9).trans hl10), hC10⟩
            exact ha.sub ⟨rfl, rfl, rfl, rfl, trivial⟩
      · subst hc2
        refine cw_true rfl ?_
        refine cw_seq ?_
        refine cw_region ?_
        refine lw_op rfl rfl rfl (ow_assign rfl rfl ?_)
        refine lw_nil ?_
        refine ew_then ?_
        refine cw_ret ?_
        refine ew_thenR ?_
        refine ew_blockR ?_
        refine ew_thenR ?_
        refine ew_thenR ?_
        refine ew_blockR ?_
        refine ew_brkR ?_
        refine ew_thenR ?_
        have e2 := hR1 _ (Option.some.inj hb2).symm
        subst e2
        obtain rfl := Option.some.inj h
        exact ew_ret (res1 rfl (.tmp rfl)) ⟨_, rfl, ((vint _)), hC3.bx⟩
    · obtain rfl := hbb1.trans hc1
      refine cw_false rfl ?_
      refine cw_exit ?_
      refine ew_thenX ?_
      refine ew_thenX ?_
      refine ew_blockX ?_
      refine ew_brk (k1, k2) hb2 fun a ha => ⟨M1, ?_, hl2, hC2⟩
      exact ha.sub ⟨rfl, rfl, rfl, rfl, trivial⟩
  · rintro ⟨k3, k4⟩ a w11 hlr2 ⟨M2, hF2, hl11, hC11⟩
    subst hlr2
    refine ew_at (E := [(1, v1p), (2, (.pointer (some p1))), (5, (.int .i64 k3)), (6, (.int .i64 k4))]) hF2 ?_
    refine ew_then ?_
    refine cw_seq ?_
    refine cw_seq ?_
    refine cw_region ?_
    refine lw_op rfl rfl rfl (ow_load (R := RRuleset) rfl rfl (ARep.mono hl11 hp1) (Tryd.sizeOf57 _) (Tryd.isAgg57 _) fun v15 hv15 => ?_)
    replace h := bind_some h
    obtain ⟨x4, hx4, h⟩ := h
    refine lw_op rfl rfl rfl (ow_call rfl rfl Tryd.call34 (w_spec_RulesetValid (hG.mono (hl1.trans hl11)) hC11.old hv15 hx4) fun v16 w12 hv16 => ?_)
    obtain ⟨hv16, hb5⟩ := hv16
    have hl12 := Le.no M2 hb5
    have hC12 := hC11.no hb5
    obtain rfl := vbool_eq hv16
    refine lw_op rfl rfl rfl (ow_not rfl rfl ?_)
    refine lw_op rfl rfl rfl (ow_move rfl rfl ?_)
    replace h := cond_some h
    rcases h with ⟨hc4, h⟩ | ⟨hc4, h⟩
    · subst hc4
      refine lw_on rfl rfl rfl rfl rfl rfl (ow_move rfl rfl ?_)
      refine lw_on rfl rfl rfl rfl rfl rfl (ow_len rfl rfl (VRep.mono ((hl1.trans hl11).trans hl12) h1) Tryd.underlying69 rfl ?_)
      refine lw_on rfl rfl rfl rfl rfl rfl (ow_gtr rfl rfl rfl fun bb2 hbb2 => ?_)
      refine lw_op rfl rfl rfl (ow_pickF rfl rfl rfl ?_)
      refine lw_nil ?_
      refine ew_then ?_
      replace h := cond_some h
      rcases h with ⟨hc5, h⟩ | ⟨hc5, h⟩
      · obtain rfl := hbb2.trans hc5
        refine cw_true rfl ?_
        refine cw_seq ?_
        refine cw_region ?_
        refine lw_op rfl rfl rfl (ow_assign rfl rfl ?_)
        refine lw_nil ?_
        refine ew_then ?_
        refine cw_ret ?_
        refine ew_thenR ?_
        obtain rfl := Option.some.inj h
        exact ew_ret (res1 rfl (.tmp rfl)) ⟨_, rfl, ((vint _)), hC12.bx⟩
      · obtain rfl := hbb2.trans hc5
        refine cw_false rfl ?_
        refine cw_skip ?_
        refine ew_then ?_
        refine cw_seq ?_
        refine cw_region ?_
        refine lw_op rfl rfl rfl (ow_move rfl rfl ?_)
        refine lw_op rfl rfl rfl (ow_assign rfl rfl ?_)
        refine lw_nil ?_
        refine ew_then ?_
        refine cw_ret ?_
        obtain rfl := Option.some.inj h
        exact ew_ret (res1 rfl (.tmp rfl)) ⟨_, rfl, ((vint _)), hC12.bx⟩
    · subst hc4
      refine lw_off rfl rfl rfl rfl rfl rfl ?_
      refine lw_off rfl rfl rfl rfl rfl rfl ?_
      refine lw_off rfl rfl rfl rfl rfl rfl ?_
      refine lw_op rfl rfl rfl (ow_pickT rfl rfl rfl ?_)
      refine lw_nil ?_
      refine ew_then ?_
      refine cw_true rfl ?_
      refine cw_seq ?_
      refine cw_region ?_
      refine lw_op rfl rfl rfl (ow_assign rfl rfl ?_)
      refine lw_nil ?_
      refine ew_then ?_
      refine cw_ret ?_
      refine ew_thenR ?_
      obtain rfl := Option.some.inj h
      exact ew_ret (res1 rfl (.tmp rfl)) ⟨_, rfl, ((vint _)), hC12.bx⟩

theorem w_laws_toPacket {w : World} {M : Nat → Prop} (_hG : ARep (RArr 4 RShape) w M shapes ⟨0, 0, none⟩) (hO : ∀ b, M b → b < w.heap.size) {v0p : Value} {a_a : Packet} (h0 : VRep RPacket w M a_a v0p) {r : Packet} (h : F.laws_toPacket a_a = some r) :
    Calls Tryd.prog 23 [v0p].toArray w fun e w' => ∃ v, e = .returned v ∧ VRep RPacket w' M r v ∧ BX No w w' := by
  have hC : Cx No w M w M := Cx.start hO (fun _ e => e.elim)
  clear _hG
  refine walk (N := 17) Tryd.func23 rfl Tryd.ntmps23 rfl ?_
  refine cw_seq ?_
  refine cw_region ?_
  refine lw_op rfl rfl rfl (ow_box (R := RPacket) rfl rfl h0 hC fun p1 w1 hp1 hb1 hl1 hC1 => ?_)
  refine lw_op rfl rfl rfl (ow_alloc rfl (Tryd.zeroValue39 _) hC1 fun g1 w2 hg1 hg2 ho1 hb2 hl2 hC2 => ?_)
  have hm1 : (Add g1 M) g1 := .inl rfl
  refine lw_nil ?_
  refine ew_then ?_
  refine cw_seq ?_
  refine cw_region ?_
  refine lw_op rfl rfl rfl (ow_alloc rfl (Tryd.zeroValue39 _) hC2 fun g2 w3 hg3 hg4 ho2 hb3 hl3 hC3 => ?_)
  have hn1 := Nat.ne_of_lt (Nat.lt_of_lt_of_le ho1.lt hg3)
  have ho3 := ho1.no hb3
  have hm2 : (Add g2 (Add g1 M)) g1 := .inr hm1
  have hm3 : (Add g2 (Add g1 M)) g2 := .inl rfl
  refine lw_nil ?_
  refine ew_then ?_
  refine cw_seq ?_
  refine cw_region ?_
  refine lw_op rfl rfl rfl (ow_fieldAddr rfl rfl Tryd.underlying34 rfl (Tryd.sizeOf3 _) ?_)
  refine lw_op rfl rfl rfl (ow_load (R := RInt) rfl rfl (ARep.mono (hl2.trans hl3) (hp1.fld fld_Packet_From)) (Tryd.sizeOf3 _) (Tryd.isAgg3 _) fun v1 hv1 => ?_)
  obtain rfl := vint_eq hv1
  refine lw_op rfl rfl rfl (ow_fieldAddr rfl rfl Tryd.underlying39 rfl (Tryd.sizeOf3 _) ?_)
  refine lw_op0 rfl rfl (ow_store (X := No) (us := [(.int .i64 a_a.From)]) (cs' := #[(.int .i64 a_a.From), (.int .i64 0), (.int .i64 0), (.int .i64 0)]) rfl rfl rfl rfl ho2 (Tryd.sizeOf3 _) rfl rfl rfl rfl hm3 (.inl hg4) rfl hC3 fun w4 ho4 hb4 hl4 hC4 => ?_)
  have ho5 := ho3.go hb4 (fun e => hn1 e)
  refine lw_nil ?_
  refine ew_then ?_
  refine cw_seq ?_
  refine cw_region ?_
  refine lw_op rfl rfl rfl (ow_fieldAddr rfl rfl Tryd.underlying34 rfl (Tryd.sizeOf3 _) ?_)
  refine lw_op rfl rfl rfl (ow_load (R := RInt) rfl rfl (ARep.mono ((hl2.trans hl3).trans hl4) (hp1.fld fld_Packet_To)) (Tryd.sizeOf3 _) (Tryd.isAgg3 _) fun v2 hv2 => ?_)
  obtain rfl := vint_eq hv2
  refine lw_op rfl rfl rfl (ow_fieldAddr rfl rfl Tryd.underlying39 rfl (Tryd.sizeOf3 _) ?_)
  refine lw_op0 rfl rfl (ow_store (X := No) (us := [(.int .i64 a_a.To)]) (cs' := #[(.int .i64 a_a.From), (.int .i64 a_a.To), (.int .i64 0), (.int .i64 0)]) rfl rfl rfl rfl ho4 (Tryd.sizeOf3 _) rfl rfl rfl rfl hm3 (.inl hg4) rfl hC4 fun w5 ho6 hb5 hl5 hC5 => ?_)
  have ho7 := ho5.go hb5 (fun e => hn1 e)
  refine lw_nil ?_
  refine ew_then ?_
  refine cw_seq ?_
  refine cw_region ?_
  refine lw_op rfl rfl rfl (ow_fieldAddr rfl rfl Tryd.underlying34 rfl (Tryd.sizeOf3 _) ?_)
  refine lw_op rfl rfl rfl (ow_load (R := RInt) rfl rfl (ARep.mono (((hl2.trans hl3).trans hl4).trans hl5) (hp1.fld fld_Packet_Port)) (Tryd.sizeOf3 _) (Tryd.isAgg3 _) fun v3 hv3 => ?_)
  obtain rfl := vint_eq hv3
  refine lw_op rfl rfl rfl (ow_fieldAddr rfl rfl Tryd.underlying39 rfl (Tryd.sizeOf3 _) ?_)
  refine lw_op0 rfl rfl (ow_store (X := No) (us := [(.int .i64 a_a.Port)]) (cs' := #[(.int .i64 a_a.From), (.int .i64 a_a.To), (.int .i64 a_a.Port), (.int .i64 0)]) rfl rfl rfl rfl ho6 (Tryd.sizeOf3 _) rfl rfl rfl rfl hm3 (.inl hg4) rfl hC5 fun w6 ho8 hb6 hl6 hC6 => ?_)
  have ho9 := ho7.go hb6 (fun e => hn1 e)
  refine lw_nil ?_
  refine ew_then ?_
  refine cw_seq ?_
  refine cw_region ?_
  refine lw_op rfl rfl rfl (ow_fieldAddr rfl rfl Tryd.underlying34 rfl (Tryd.sizeOf3 _) ?_)
  refine lw_op rfl rfl rfl (ow_load (R := RInt) rfl rfl (ARep.mono ((((hl2.trans hl3).trans hl4).trans hl5).trans hl6) (hp1.fld fld_Packet_Proto)) (Tryd.sizeOf3 _) (Tryd.isAgg3 _) fun v4 hv4 => ?_)
  obtain rfl := vint_eq hv4
  refine lw_op rfl rfl rfl (ow_fieldAddr rfl rfl Tryd.underlying39 rfl (Tryd.sizeOf3 _) ?_)
  refine lw_op0 rfl rfl (ow_store (X := No) (us := [(.int .i64 a_a.Proto)]) (cs' := #[(.int .i64 a_a.From), (.int .i64 a_a.To), (.int .i64 a_a.Port), (.int .i64 a_a.Proto)]) rfl rfl rfl rfl ho8 (Tryd.sizeOf3 _) rfl rfl rfl rfl hm3 (.inl hg4) rfl hC6 fun w7 ho10 hb7 hl7 hC7 => ?_)
  have ho11 := ho9.go hb7 (fun e => hn1 e)
  refine lw_nil ?_
  refine ew_then ?_
  refine cw_seq ?_
  refine cw_region ?_
  refine lw_op rfl rfl rfl (ow_loadOwnA rfl rfl rfl ho10 (Tryd.isAgg39 _) (Tryd.sizeOf39 _) rfl ?_)
  have hw1 : VRep RPacket w7 (Add g2 (Add g1 M)) ({ From := a_a.From, To := a_a.To, Port := a_a.Port, Proto := a_a.Proto } : Packet) (.agg #[(.int .i64 a_a.From), (.int .i64 a_a.To), (.int .i64 a_a.Port), (.int .i64 a_a.Proto)]) := shut_Packet
  refine lw_op0 rfl rfl (ow_store (X := No) (us := [(.int .i64 a_a.From), (.int .i64 a_a.To), (.int .i64 a_a.Port), (.int .i64 a_a.Proto)]) (cs' := #[(.int .i64 a_a.From), (.int .i64 a_a.To), (.int .i64 a_a.Port), (.int .i64 a_a.Proto)]) rfl rfl rfl rfl ho11 (Tryd.sizeOf39 _) rfl rfl rfl rfl hm2 (.inl hg2) rfl hC7 fun w8 ho12 hb8 hl8 hC8 => ?_)
  have ho13 := ho10.go hb8 (fun e => hn1 e.symm)
  refine lw_nil ?_
  refine ew_then ?_
  refine cw_ret ?_
  have hw2 : VRep RPacket w8 (Add g2 (Add g1 M)) ({ From := a_a.From, To := a_a.To, Port := a_a.Port, Proto := a_a.Proto } : Packet) (.agg #[(.int .i64 a_a.From), (.int .i64 a_a.To), (.int .i64 a_a.Port), (.int .i64 a_a.Proto)]) := shut_Packet
  obtain rfl := Option.some.inj h
  exact ew_ret (res1 rfl (.cell rfl (own_loadVarA ho12 (Tryd.isAgg39 _) (Tryd.sizeOf39 _) rfl))) ⟨_, rfl, (hw2.mono hC8.back), hC8.bx⟩

theorem w_laws_toPacketS {w : World} {M : Nat → Prop} (hG : ARep (RArr 4 RShape) w M shapes ⟨0, 0, none⟩) (hO : ∀ b, M b → b < w.heap.size) {v0p : Value} {a_a : List Packet} (h0 : VRep (RSlice RPacket) w M a_a v0p) {r : (List Packet)} (h : F.laws_toPacketS a_a = some r) :
    Calls Tryd.prog 46 [v0p].toArray w fun e w' => ∃ v, e = .returned v ∧ VRep (RSlice RPacket) w' M r v ∧ BX No w w' := by
  obtain ⟨i39, hi39, hz39, hs39, hy39⟩ := info39
  have hC : Cx No w M w M := Cx.start hO (fun _ e => e.elim)
  refine walk (N := 23) Tryd.func46 rfl Tryd.ntmps46 rfl ?_
  refine cw_seq ?_
  refine cw_region ?_
  refine lw_op rfl rfl rfl (ow_assign rfl rfl ?_)
  refine lw_nil ?_
  refine ew_then ?_
  refine cw_seq ?_
  refine cw_region ?_
  refine lw_op rfl rfl rfl (ow_move rfl rfl ?_)
  refine lw_op rfl rfl rfl (ow_len rfl rfl h0 Tryd.underlying66 rfl ?_)
  replace h := bind_some h
  obtain ⟨mk1, hmk1, h⟩ := h
  refine lw_op rfl rfl rfl (ow_make (R := RPacket) rfl rfl rfl Tryd.underlying69 hi39 hz39 hs39 hy39 rfl rfl (shut_Packet) hmk1 hC fun v1 w1 M1 hr1 hb1 hl1 hC1 hM1 hat1 => ?_)
  refine lw_op rfl rfl rfl (ow_assign rfl rfl ?_)
  refine lw_nil ?_
  refine ew_then ?_
  refine cw_seq ?_
  refine cw_seq ?_
  refine cw_region ?_
  refine lw_op rfl rfl rfl (ow_assign rfl rfl ?_)
  refine lw_nil ?_
  refine ew_then ?_
  replace h := bind_some h
  obtain ⟨lr1, hlr1, h⟩ := h
  refine cw_for hlr1 (fun s a w' => ∃ (M' : Nat → Prop), Fits 23 [(0, v0p), (3, v1), (4, (.int .i64 s.1))] a ∧ Le w1 M1 w' M' ∧ Cx No w M w' M' ∧ OwnRow RPacket w.heap.size 39 w' M' s.2 v1) ?_ ?_ ?_
  · intro a ha
    exact ⟨M1, ha.sub ⟨rfl, rfl, rfl, trivial⟩, Le.refl _ _, hC1, hr1⟩
  · rintro ⟨k1, y1⟩ a w2 sr1 ⟨M2, hF1, hl2, hC2, hw1⟩ hb2 hR1
    refine cw_at (E := [(0, v0p), (3, v1), (4, (.int .i64 k1))]) hF1 ?_
    refine cw_seq ?_
    refine cw_seq ?_
    refine cw_region ?_
    refine lw_op rfl rfl rfl (ow_move rfl rfl ?_)
    refine lw_op rfl rfl rfl (ow_move rfl rfl ?_)
    refine lw_op rfl rfl rfl (ow_len rfl rfl (VRep.mono (hl1.trans hl2) h0) Tryd.underlying66 rfl ?_)
    refine lw_op rfl rfl rfl (ow_lss rfl rfl rfl fun bb1 hbb1 => ?_)
    refine lw_nil ?_
    refine ew_then ?_
    replace hb2 := cond_some hb2
    rcases hb2 with ⟨hc1, hb2⟩ | ⟨hc1, hb2⟩
    · obtain rfl := hbb1.trans hc1
      refine cw_true rfl ?_
      refine cw_skip ?_
      refine ew_then ?_
      refine cw_seq ?_
      refine cw_block ?_
      refine cw_region ?_
      refine lw_op rfl rfl rfl (ow_move rfl rfl ?_)
      refine lw_op rfl rfl rfl (ow_move rfl rfl ?_)
      refine lw_op rfl rfl rfl (ow_move rfl rfl ?_)
      refine lw_op rfl rfl rfl (ow_move rfl rfl ?_)
      replace hb2 := bind_some hb2
      obtain ⟨x1, hx1, hb2⟩ := hb2
      refine lw_op rfl rfl rfl (ow_indexSlice (R := RPacket) rfl rfl rfl (VRep.mono (hl1.trans hl2) h0) Tryd.underlying66 (Tryd.sizeOf34 _) hx1 fun p1 hp1 => ?_)
      refine lw_op rfl rfl rfl (ow_load (R := RPacket) rfl rfl hp1 (Tryd.sizeOf34 _) (Tryd.isAgg34 _) fun v4 hv4 => ?_)
      replace hb2 := bind_some hb2
      obtain ⟨x2, hx2, hb2⟩ := hb2
      refine lw_op rfl rfl rfl (ow_call rfl rfl Tryd.call23 (w_laws_toPacket (hG.mono (hl1.trans hl2)) hC2.old hv4 hx2) fun v5 w3 hv5 => ?_)
      obtain ⟨hv5, hb3⟩ := hv5
      have hl3 := Le.no M2 hb3
      have hC3 := hC2.no hb3
      have hr2 := hw1.no hb3
      replace hb2 := bind_some hb2
      obtain ⟨x3, hx3, hb2⟩ := hb2
      refine lw_op rfl rfl rfl (ow_indexRow (R := RPacket) rfl rfl rfl hr2 Tryd.underlying69 (Tryd.sizeOf39 _) hx3 ?_)
      refine lw_op0 rfl rfl (ow_storeElRow (X := No) (R := RPacket) (S := RPacket) rfl rfl rfl rfl hr2 (orow_blk hr2 hx3) hx3 (FldSet.whole RPacket) (Tryd.sizeOf39 _) hv5 (Nat.le_refl _) hC3 fun w4 ho1 hb4 hl4 hC4 => ?_)
      refine lw_nil ?_
      refine ew_blockN ?_
      refine ew_then ?_
      refine cw_region ?_
      refine lw_op rfl rfl rfl (ow_move rfl rfl ?_)
      refine lw_op rfl rfl rfl (ow_add rfl rfl rfl ?_)
      refine lw_op rfl rfl rfl (ow_assign rfl rfl ?_)
      refine lw_nil ?_
      refine ew_nxt ((W (k1 + 1)), (List.set y1 (k1 : Int).toNat x2)) hb2 fun a ha => ⟨M2, ?_, ((hl2.trans hl3).trans hl4), hC4, ho1⟩
      exact ha.sub ⟨rfl, rfl, rfl, trivial⟩
    · obtain rfl := hbb1.trans hc1
      refine cw_false rfl ?_
      refine cw_exit ?_
      refine ew_thenX ?_
      refine ew_thenX ?_
      refine ew_blockX ?_
      refine ew_brk (k1, y1) hb2 fun a ha => ⟨M2, ?_, hl2, hC2, hw1⟩
      exact ha.sub ⟨rfl, rfl, rfl, trivial⟩
  · rintro ⟨k2, y2⟩ a w5 hlr2 ⟨M3, hF2, hl5, hC5, hw2⟩
    subst hlr2
    refine ew_at (E := [(0, v0p), (3, v1), (4, (.int .i64 k2))]) hF2 ?_
    refine ew_then ?_
    refine cw_seq ?_
    refine cw_region ?_
    refine lw_op rfl rfl rfl (ow_move rfl rfl ?_)
    refine lw_op rfl rfl rfl (ow_assign rfl rfl ?_)
    refine lw_nil ?_
    refine ew_then ?_
    refine cw_ret ?_
    obtain rfl := Option.some.inj h
    exact ew_ret (res1 rfl (.tmp rfl)) ⟨_, rfl, (hw2.freezeBack hC5 hO), hC5.bx⟩

theorem w_impl_FieldTop {w : World} {M : Nat → Prop} (hG : ARep (RArr 4 RShape) w M shapes ⟨0, 0, none⟩) (hO : ∀ b, M b → b < w.heap.size) {a_n : Int} {r : Int} (h : F.impl_FieldTop a_n = some r) :
    Calls Tryd.prog 107 [(.int .i64 a_n)].toArray w fun e w' => ∃ v, e = .returned v ∧ VRep RInt w' M r v ∧ BX No w w' := by
  have hC : Cx No w M w M := Cx.start hO (fun _ e => e.elim)
  refine walk (N := 13) Tryd.func107 rfl Tryd.ntmps107 rfl ?_
  refine cw_seq ?_
  refine cw_region ?_
  refine lw_op rfl rfl rfl (ow_assign rfl rfl ?_)
  refine lw_nil ?_
  refine ew_then ?_
  refine cw_seq ?_
  refine cw_seq ?_
  refine cw_region ?_
  refine lw_op rfl rfl rfl (ow_move rfl rfl ?_)
  refine lw_op rfl rfl rfl (ow_lss rfl rfl rfl fun bb1 hbb1 => ?_)
  refine lw_op rfl rfl rfl (ow_move rfl rfl ?_)
  replace h := cond_some h
  rcases h with ⟨hc1, h⟩ | ⟨hc1, h⟩
  · obtain rfl := hbb1.trans hc1
    refine lw_off rfl rfl rfl rfl rfl rfl ?_
    refine lw_off rfl rfl rfl rfl rfl rfl ?_
    refine lw_op rfl rfl rfl (ow_pickT rfl rfl rfl ?_)
    refine lw_nil ?_
    refine ew_then ?_
    refine cw_true rfl ?_
    refine cw_seq ?_
    refine cw_region ?_
    refine lw_op rfl rfl rfl (ow_assign rfl rfl ?_)
    refine lw_nil ?_
    refine ew_then ?_
    refine cw_ret ?_
    refine ew_thenR ?_
    obtain rfl := Option.some.inj h
    exact ew_ret (res1 rfl (.tmp rfl)) ⟨_, rfl, ((vint _)), hC.bx⟩
  · obtain rfl := hbb1.trans hc1
    refine lw_on rfl rfl rfl rfl rfl rfl (ow_move rfl rfl ?_)
    refine lw_on rfl rfl rfl rfl rfl rfl (ow_geq rfl rfl rfl fun bb2 hbb2 => ?_)
    refine lw_op rfl rfl rfl (ow_pickF rfl rfl rfl ?_)
    refine lw_nil ?_
    refine ew_then ?_
    replace h := cond_some h
    rcases h with ⟨hc2, h⟩ | ⟨hc2, h⟩
    · obtain rfl := hbb2.trans hc2
      refine cw_true rfl ?_
      refine cw_seq ?_
      refine cw_region ?_
      refine lw_op rfl rfl rfl (ow_assign rfl rfl ?_)
      refine lw_nil ?_
      refine ew_then ?_
      refine cw_ret ?_
      refine ew_thenR ?_
      obtain rfl := Option.some.inj h
      exact ew_ret (res1 rfl (.tmp rfl)) ⟨_, rfl, ((vint _)), hC.bx⟩
    · obtain rfl := hbb2.trans hc2
      refine cw_false rfl ?_
      refine cw_skip ?_
      refine ew_then ?_
      refine cw_seq ?_
      refine cw_region ?_
      refine lw_op rfl rfl rfl (ow_move rfl rfl ?_)
      replace h := bind_some h
      obtain ⟨x1, hx1, h⟩ := h
      refine lw_op rfl rfl rfl (ow_indexArr (R := RShape) rfl rfl rfl hG Tryd.underlying192 (Tryd.sizeOf191 _) hx1 fun p1 hp1 => ?_)
      refine lw_op rfl rfl rfl (ow_fieldAddr rfl rfl Tryd.underlying191 rfl (Tryd.sizeOf3 _) ?_)
      refine lw_op rfl rfl rfl (ow_load (R := RInt) rfl rfl (hp1.fld fld_Shape_top) (Tryd.sizeOf3 _) (Tryd.isAgg3 _) fun v1 hv1 => ?_)
      obtain rfl := vint_eq hv1
      refine lw_op rfl rfl rfl (ow_assign rfl rfl ?_)
      refine lw_nil ?_
      refine ew_then ?_
      refine cw_ret ?_
      obtain rfl := Option.some.inj h
      exact ew_ret (res1 rfl (.tmp rfl)) ⟨_, rfl, ((vint _)), hC.bx⟩

theorem w_impl_TestValid {w : World} {M : Nat → Prop} (hG : ARep (RArr 4 RShape) w M shapes ⟨0, 0, none⟩) (hO : ∀ b, M b → b < w.heap.size) {v0p : Value} {a_t : Test} (h0 : VRep RTest w M a_t v0p) {r : Bool} (h : F.impl_TestValid a_t = some r) :
    Calls Tryd.prog 141 [v0p].toArray w fun e w' => ∃ v, e = .returned v ∧ VRep RBool w' M r v ∧ BX No w w' := by
  have hC : Cx No w M w M := Cx.start hO (fun _ e => e.elim)
  refine walk (N := 31) Tryd.func141 rfl Tryd.ntmps141 rfl ?_
  refine cw_seq ?_
  refine cw_region ?_
  refine lw_op rfl rfl rfl (ow_box (R := RTest) rfl rfl h0 hC fun p1 w1 hp1 hb1 hl1 hC1 => ?_)
  refine lw_op rfl rfl rfl (ow_assign rfl rfl ?_)
  refine lw_nil ?_
  refine ew_then ?_
  refine cw_seq ?_
  replace h := cond_some h
  rcases h with ⟨hc1, h⟩ | ⟨hc1, h⟩
  · replace h := cond_some h
    rcases h with ⟨hc2, h⟩ | ⟨hc2, h⟩
    · replace h := cond_some h
      rcases h with ⟨hc3, h⟩ | ⟨hc3, h⟩
      · replace h := cond_some h
        rcases h with ⟨hc4, h⟩ | ⟨hc4, h⟩
        · replace h := bind_some h
          obtain ⟨x1, hx1, h⟩ := h
          refine cw_sub (E' := [(1, (.pointer (some p1))), (2, (.bool false))]) ⟨rfl, rfl, trivial⟩ ?_
          refine cw_drawQ 26 [PA RInt M a_t.Field, PEq (.int .i64 a_t.Field), PEq (.bool true), PEq (.bool true), PA RInt M a_t.Field, PEq (.int .i64 a_t.Field), PEq (.bool true), PEq (.bool true), PEq (.bool true), PA RInt M a_t.Lo, PEq (.int .i64 a_t.Lo), PEq (.bool true), PEq (.bool true), PEq (.bool true), PA RInt M a_t.Lo, PEq (.int .i64 a_t.Lo), PA RInt M a_t.Hi, PEq (.int .i64 a_t.Hi), PEq (.bool true), PEq (.bool true), PEq (.bool true), PA RInt M a_t.Hi, PEq (.int .i64 a_t.Hi), PA RInt M a_t.Field, PEq (.int .i64 a_t.Field), PEq (.int .i64 x1)] (by kernel_rfl) rfl (by kernel_rfl) ⟨PA.mono _ _ _, PEq.mono _, PEq.mono _, PEq.mono _, PA.mono _ _ _, PEq.mono _, PEq.mono _, PEq.mono _, PEq.mono _, PA.mono _ _ _, PEq.mono _, PEq.mono _, PEq.mono _, PEq.mono _, PA.mono _ _ _, PEq.mono _, PA.mono _ _ _, PEq.mono _, PEq.mono _, PEq.mono _, PEq.mono _, PA.mono _ _ _, PEq.mono _, PA.mono _ _ _, PEq.mono _, PEq.mono _, trivial⟩ ⟨?_, ?_, ?_, ?_, ?_, ?_, ?_, ?_, ?_, ?_, ?_, ?_, ?_, ?_, ?_, ?_, ?_, ?_, ?_, ?_, ?_, ?_, ?_, ?_, ?_, ?_, trivial⟩ ?_
          · intro w3 D hS1 hd1
            have hl3 := Le.no M hS1
            have hC3 := hC1.no hS1
            refine dg_sub (E' := [(1, (.pointer (some p1)))]) ⟨rfl, trivial⟩ ?_
            refine dg_plain rfl (ow_fieldAddr rfl rfl Tryd.underlying186 rfl (Tryd.sizeOf3 _) ?_)
            exact ⟨BX.refl _ _, ⟨_, rfl, (ARep.mono hl3 (hp1.fld fld_Test_Field))⟩⟩
          · intro w4 D hS2 hd2
            have hl4 := Le.no M hS2
            have hC4 := hC1.no hS2
            have hd2 : PA RInt M a_t.Field (D 0) w4 ∧ True := hd2
            obtain ⟨d1, -⟩ := hd2
            obtain ⟨p2, e1, ha1⟩ := d1
            refine dg_sub (E' := [(3, (.pointer (some p2)))]) ⟨(congrArg some e1), trivial⟩ ?_
            refine dg_plain rfl (ow_load (R := RInt) rfl rfl ha1 (Tryd.sizeOf3 _) (Tryd.isAgg3 _) fun v9 hv9 => ?_)
            obtain rfl := vint_eq hv9
            exact ⟨BX.refl _ _, rfl⟩
          · intro w5 D hS3 hd3
            have hl5 := Le.no M hS3
            have hC5 := hC1.no hS3
            have hd3 : PEq (.int .i64 a_t.Field) (D 1) w5 ∧ True := hd3
            obtain ⟨d2, -⟩ := hd3
            refine dg_sub (E' := [(4, (.int .i64 a_t.Field))]) ⟨(congrArg some d2), trivial⟩ ?_
            refine dg_plain rfl (ow_geq rfl rfl rfl fun bb5 hbb5 => ?_)
            obtain rfl := hbb5.trans hc1
            exact ⟨BX.refl _ _, rfl⟩
          · intro w6 D hS4 hd4
            have hl6 := Le.no M hS4
            have hC6 := hC1.no hS4
            have hd4 : PEq (.bool true) (D 2) w6 ∧ True := hd4
            obtain ⟨d3, -⟩ := hd4
            refine dg_sub (E' := [(5, (.bool true))]) ⟨(congrArg some d3), trivial⟩ ?_
            refine dg_plain rfl (ow_move rfl rfl ?_)
            exact ⟨BX.refl _ _, rfl⟩
          · intro w7 D hS5 hd5
            have hl7 := Le.no M hS5
            have hC7 := hC1.no hS5
            have hd5 : PEq (.bool true) (D 3) w7 ∧ True := hd5
            obtain ⟨d4, -⟩ := hd5
            refine dg_sub (E' := [(6, (.bool true)), (1, (.pointer (some p1)))]) ⟨(congrArg some d4), rfl, trivial⟩ ?_
            refine dg_on rfl rfl rfl rfl (ow_fieldAddr rfl rfl Tryd.underlying186 rfl (Tryd.sizeOf3 _) ?_)
            exact ⟨BX.refl _ _, ⟨_, rfl, (ARep.mono hl7 (hp1.fld fld_Test_Field))⟩⟩
          · intro w8 D hS6 hd6
            have hl8 := Le.no M hS6
            have hC8 := hC1.no hS6
            have hd6 : PA RInt M a_t.Field (D 4) w8 ∧ PEq (.bool true) (D 3) w8 ∧ True := hd6
            obtain ⟨d5, d6, -⟩ := hd6
            obtain ⟨p3, e2, ha2⟩ := d5
            refine dg_sub (E' := [(7, (.pointer (some p3))), (6, (.bool true))]) ⟨(congrArg some e2), (congrArg some d6), trivial⟩ ?_
            refine dg_on rfl rfl rfl rfl (ow_load (R := RInt) rfl rfl ha2 (Tryd.sizeOf3 _) (Tryd.isAgg3 _) fun v10 hv10 => ?_)
            obtain rfl := vint_eq hv10
            exact ⟨BX.refl _ _, rfl⟩
          · intro w9 D hS7 hd7
            have hl9 := Le.no M hS7
            have hC9 := hC1.no hS7
            have hd7 : PEq (.int .i64 a_t.Field) (D 5) w9 ∧ PEq (.bool true) (D 3) w9 ∧ True := hd7
            obtain ⟨d7, d8, -⟩ := hd7
            refine dg_sub (E' := [(8, (.int .i64 a_t.Field)), (6, (.bool true))]) ⟨(congrArg some d7), (congrArg some d8), trivial⟩ ?_
            refine dg_on rfl rfl rfl rfl (ow_lss rfl rfl rfl fun bb6 hbb6 => ?_)
            obtain rfl := hbb6.trans hc2
            exact ⟨BX.refl _ _, rfl⟩
          · intro w10 D hS8 hd8
            have hl10 := Le.no M hS8
            have hC10 := hC1.no hS8
            have hd8 : PEq (.bool true) (D 3) w10 ∧ PEq (.bool true) (D 6) w10 ∧ True := hd8
            obtain ⟨d9, d10, -⟩ := hd8
            refine dg_sub (E' := [(6, (.bool true)), (9, (.bool true))]) ⟨(congrArg some d9), (congrArg some d10), trivial⟩ ?_
            refine dg_plain rfl (ow_pickT rfl rfl rfl ?_)
            exact ⟨BX.refl _ _, rfl⟩
          · intro w11 D hS9 hd9
            have hl11 := Le.no M hS9
            have hC11 := hC1.no hS9
            have hd9 : PEq (.bool true) (D 7) w11 ∧ PEq (.bool true) (D 3) w11 ∧ True := hd9
            obtain ⟨d11, d12, -⟩ := hd9
            refine dg_sub (E' := [(10, (.bool true))]) ⟨(congrArg some d11), trivial⟩ ?_
            refine dg_plain rfl (ow_move rfl rfl ?_)
            exact ⟨BX.refl _ _, rfl⟩
          · intro w12 D hS10 hd10
            have hl12 := Le.no M hS10
            have hC12 := hC1.no hS10
            have hd10 : PEq (.bool true) (D 8) w12 ∧ True := hd10
            obtain ⟨d13, -⟩ := hd10
            refine dg_sub (E' := [(11, (.bool true)), (1, (.pointer (some p1)))]) ⟨(congrArg some d13), rfl, trivial⟩ ?_
            refine dg_on rfl rfl rfl rfl (ow_fieldAddr rfl rfl Tryd.underlying186 rfl (Tryd.sizeOf3 _) ?_)
            exact ⟨BX.refl _ _, ⟨_, rfl, (ARep.mono hl12 (hp1.fld fld_Test_Lo))⟩⟩
          · intro w13 D hS11 hd11
            have hl13 := Le.no M hS11
            have hC13 := hC1.no hS11
            have hd11 : PA RInt M a_t.Lo (D 9) w13 ∧ PEq (.bool true) (D 8) w13 ∧ True := hd11
            obtain ⟨d14, d15, -⟩ := hd11
            obtain ⟨p4, e3, ha3⟩ := d14
            refine dg_sub (E' := [(12, (.pointer (some p4))), (11, (.bool true))]) ⟨(congrArg some e3), (congrArg some d15), trivial⟩ ?_
            refine dg_on rfl rfl rfl rfl (ow_load (R := RInt) rfl rfl ha3 (Tryd.sizeOf3 _) (Tryd.isAgg3 _) fun v11 hv11 => ?_)
            obtain rfl := vint_eq hv11
            exact ⟨BX.refl _ _, rfl⟩
          · intro w14 D hS12 hd12
            have hl14 := Le.no M hS12
            have hC14 := hC1.no hS12
            have hd12 : PEq (.int .i64 a_t.Lo) (D 10) w14 ∧ PEq (.bool true) (D 8) w14 ∧ True := hd12
            obtain ⟨d16, d17, -⟩ := hd12
            refine dg_sub (E' := [(13, (.int .i64 a_t.Lo)), (11, (.bool true))]) ⟨(congrArg some d16), (congrArg some d17), trivial⟩ ?_
            refine dg_on rfl rfl rfl rfl (ow_geq rfl rfl rfl fun bb7 hbb7 => ?_)
            obtain rfl := hbb7.trans hc3
            exact ⟨BX.refl _ _, rfl⟩
          · intro w15 D hS13 hd13
            have hl15 := Le.no M hS13
            have hC15 := hC1.no hS13
            have hd13 : PEq (.bool true) (D 8) w15 ∧ PEq (.bool true) (D 11) w15 ∧ True := hd13
            obtain ⟨d18, d19, -⟩ := hd13
            refine dg_sub (E' := [(11, (.bool true)), (14, (.bool true))]) ⟨(congrArg some d18), (congrArg some d19), trivial⟩ ?_
            refine dg_plain rfl (ow_pickT rfl rfl rfl ?_)
            exact ⟨BX.refl _ _, rfl⟩
          · intro w16 D hS14 hd14
            have hl16 := Le.no M hS14
            have hC16 := hC1.no hS14
            have hd14 : PEq (.bool true) (D 12) w16 ∧ PEq (.bool true) (D 8) w16 ∧ True := hd14
            obtain ⟨d20, d21, -⟩ := hd14
            refine dg_sub (E' := [(15, (.bool true))]) ⟨(congrArg some d20), trivial⟩ ?_
            refine dg_plain rfl (ow_move rfl rfl ?_)
            exact ⟨BX.refl _ _, rfl⟩
          · intro w17 D hS15 hd15
            have hl17 := Le.no M hS15
            have hC17 := hC1.no hS15
            have hd15 : PEq (.bool true) (D 13) w17 ∧ True := hd15
            obtain ⟨d22, -⟩ := hd15
            refine dg_sub (E' := [(16, (.bool true)), (1, (.pointer (some p1)))]) ⟨(congrArg some d22), rfl, trivial⟩ ?_
            refine dg_on rfl rfl rfl rfl (ow_fieldAddr rfl rfl Tryd.underlying186 rfl (Tryd.sizeOf3 _) ?_)
            exact ⟨BX.refl _ _, ⟨_, rfl, (ARep.mono hl17 (hp1.fld fld_Test_Lo))⟩⟩
          · intro w18 D hS16 hd16
            have hl18 := Le.no M hS16
            have hC18 := hC1.no hS16
            have hd16 : PA RInt M a_t.Lo (D 14) w18 ∧ PEq (.bool true) (D 13) w18 ∧ True := hd16
            obtain ⟨d23, d24, -⟩ := hd16
            obtain ⟨p5, e4, ha4⟩ := d23
            refine dg_sub (E' := [(17, (.pointer (some p5))), (16, (.bool true))]) ⟨(congrArg some e4), (congrArg some d24), trivial⟩ ?_
            refine dg_on rfl rfl rfl rfl (ow_load (R := RInt) rfl rfl ha4 (Tryd.sizeOf3 _) (Tryd.isAgg3 _) fun v12 hv12 => ?_)
            obtain rfl := vint_eq hv12
            exact ⟨BX.refl _ _, rfl⟩
          · intro w19 D hS17 hd17
            have hl19 := Le.no M hS17
            have hC19 := hC1.no hS17
            have hd17 : PEq (.bool true) (D 13) w19 ∧ True := hd17
            obtain ⟨d25, -⟩ := hd17
            refine dg_sub (E' := [(16, (.bool true)), (1, (.pointer (some p1)))]) ⟨(congrArg some d25), rfl, trivial⟩ ?_
            refine dg_on rfl rfl rfl rfl (ow_fieldAddr rfl rfl Tryd.underlying186 rfl (Tryd.sizeOf3 _) ?_)
            exact ⟨BX.refl _ _, ⟨_, rfl, (ARep.mono hl19 (hp1.fld fld_Test_Hi))⟩⟩
          · intro w20 D hS18 hd18
            have hl20 := Le.no M hS18
            have hC20 := hC1.no hS18
            have hd18 : PA RInt M a_t.Hi (D 16) w20 ∧ PEq (.bool true) (D 13) w20 ∧ True := hd18
            obtain ⟨d26, d27, -⟩ := hd18
            obtain ⟨p6, e5, ha5⟩ := d26
            refine dg_sub (E' := [(19, (.pointer (some p6))), (16, (.bool true))]) ⟨(congrArg some e5), (congrArg some d27), trivial⟩ ?_
            refine dg_on rfl rfl rfl rfl (ow_load (R := RInt) rfl rfl ha5 (Tryd.sizeOf3 _) (Tryd.isAgg3 _) fun v13 hv13 => ?_)
            obtain rfl := vint_eq hv13
            exact ⟨BX.refl _ _, rfl⟩
          · intro w21 D hS19 hd19
            have hl21 := Le.no M hS19
            have hC21 := hC1.no hS19
            have hd19 : PEq (.int .i64 a_t.Lo) (D 15) w21 ∧ PEq (.int .i64 a_t.Hi) (D 17) w21 ∧ PEq (.bool true) (D 13) w21 ∧ True := hd19
            obtain ⟨d28, d29, d30, -⟩ := hd19
            refine dg_sub (E' := [(18, (.int .i64 a_t.Lo)), (20, (.int .i64 a_t.Hi)), (16, (.bool true))]) ⟨(congrArg some d28), (congrArg some d29), (congrArg some d30), trivial⟩ ?_
            refine dg_on rfl rfl rfl rfl (ow_leq rfl rfl rfl fun bb8 hbb8 => ?_)
            obtain rfl := hbb8.trans hc4
            exact ⟨BX.refl _ _, rfl⟩
          · intro w22 D hS20 hd20
            have hl22 := Le.no M hS20
            have hC22 := hC1.no hS20
            have hd20 : PEq (.bool true) (D 13) w22 ∧ PEq (.bool true) (D 18) w22 ∧ True := hd20
            obtain ⟨d31, d32, -⟩ := hd20
            refine dg_sub (E' := [(16, (.bool true)), (21, (.bool true))]) ⟨(congrArg some d31), (congrArg some d32), trivial⟩ ?_
            refine dg_plain rfl (ow_pickT rfl rfl rfl ?_)
            exact ⟨BX.refl _ _, rfl⟩
          · intro w23 D hS21 hd21
            have hl23 := Le.no M hS21
            have hC23 := hC1.no hS21
            have hd21 : PEq (.bool true) (D 19) w23 ∧ PEq (.bool true) (D 13) w23 ∧ True := hd21
            obtain ⟨d33, d34, -⟩ := hd21
            refine dg_sub (E' := [(22, (.bool true))]) ⟨(congrArg some d33), trivial⟩ ?_
            refine dg_plain rfl (ow_move rfl rfl ?_)
            exact ⟨BX.refl _ _, rfl⟩
          · intro w24 D hS22 hd22
            have hl24 := Le.no M hS22
            have hC24 := hC1.no hS22
            have hd22 : PEq (.bool true) (D 20) w24 ∧ True := hd22
            obtain ⟨d35, -⟩ := hd22
            refine dg_sub (E' := [(23, (.bool true)), (1, (.pointer (some p1)))]) ⟨(congrArg some d35), rfl, trivial⟩ ?_
            refine dg_on rfl rfl rfl rfl (ow_fieldAddr rfl rfl Tryd.underlying186 rfl (Tryd.sizeOf3 _) ?_)
            exact ⟨BX.refl _ _, ⟨_, rfl, (ARep.mono hl24 (hp1.fld fld_Test_Hi))⟩⟩
          · intro w25 D hS23 hd23
            have hl25 := Le.no M hS23
            have hC25 := hC1.no hS23
            have hd23 : PA RInt M a_t.Hi (D 21) w25 ∧ PEq (.bool true) (D 20) w25 ∧ True := hd23
            obtain ⟨d36, d37, -⟩ := hd23
            obtain ⟨p7, e6, ha6⟩ := d36
            refine dg_sub (E' := [(24, (.pointer (some p7))), (23, (.bool true))]) ⟨(congrArg some e6), (congrArg some d37), trivial⟩ ?_
            refine dg_on rfl rfl rfl rfl (ow_load (R := RInt) rfl rfl ha6 (Tryd.sizeOf3 _) (Tryd.isAgg3 _) fun v14 hv14 => ?_)
            obtain rfl := vint_eq hv14
            exact ⟨BX.refl _ _, rfl⟩
          · intro w26 D hS24 hd24
            have hl26 := Le.no M hS24
            have hC26 := hC1.no hS24
            have hd24 : PEq (.bool true) (D 20) w26 ∧ True := hd24
            obtain ⟨d38, -⟩ := hd24
            refine dg_sub (E' := [(23, (.bool true)), (1, (.pointer (some p1)))]) ⟨(congrArg some d38), rfl, trivial⟩ ?_
            refine dg_on rfl rfl rfl rfl (ow_fieldAddr rfl rfl Tryd.underlying186 rfl (Tryd.sizeOf3 _) ?_)
            exact ⟨BX.refl _ _, ⟨_, rfl, (ARep.mono hl26 (hp1.fld fld_Test_Field))⟩⟩
          · intro w27 D hS25 hd25
            have hl27 := Le.no M hS25
            have hC27 := hC1.no hS25
            have hd25 : PA RInt M a_t.Field (D 23) w27 ∧ PEq (.bool true) (D 20) w27 ∧ True := hd25
            obtain ⟨d39, d40, -⟩ := hd25
            obtain ⟨p8, e7, ha7⟩ := d39
            refine dg_sub (E' := [(26, (.pointer (some p8))), (23, (.bool true))]) ⟨(congrArg some e7), (congrArg some d40), trivial⟩ ?_
            refine dg_on rfl rfl rfl rfl (ow_load (R := RInt) rfl rfl ha7 (Tryd.sizeOf3 _) (Tryd.isAgg3 _) fun v15 hv15 => ?_)
            obtain rfl := vint_eq hv15
            exact ⟨BX.refl _ _, rfl⟩
          · intro w28 D hS26 hd26
            have hl28 := Le.no M hS26
            have hC28 := hC1.no hS26
            have hd26 : PEq (.int .i64 a_t.Field) (D 24) w28 ∧ PEq (.bool true) (D 20) w28 ∧ PEq (.bool true) (D 20) w28 ∧ True := hd26
            obtain ⟨d41, d42, d43, -⟩ := hd26
            refine dg_sub (E' := [(27, (.int .i64 a_t.Field)), (23, (.bool true))]) ⟨(congrArg some d41), (congrArg some d42), trivial⟩ ?_
            refine dg_on rfl rfl rfl rfl (ow_call rfl rfl Tryd.call107 (w_impl_FieldTop (hG.mono (hl1.trans hl28)) hC28.old hx1) fun v16 w29 hv16 => ?_)
            obtain ⟨hv16, hb3⟩ := hv16
            have hl29 := Le.no M hb3
            have hC29 := hC28.no hb3
            obtain rfl := vint_eq hv16
            exact ⟨hb3, rfl⟩
          · intro w30 D hS27 hd27
            have hl30 := Le.no M hS27
            have hC30 := hC1.no hS27
            have hd27 : PA RInt M a_t.Field (D 0) w30 ∧ PEq (.int .i64 a_t.Field) (D 1) w30 ∧ PEq (.bool true) (D 2) w30 ∧ PEq (.bool true) (D 3) w30 ∧ PA RInt M a_t.Field (D 4) w30 ∧ PEq (.int .i64 a_t.Field) (D 5) w30 ∧ PEq (.bool true) (D 6) w30 ∧ PEq (.bool true) (D 7) w30 ∧ PEq (.bool true) (D 8) w30 ∧ PA RInt M a_t.Lo (D 9) w30 ∧ PEq (.int .i64 a_t.Lo) (D 10) w30 ∧ PEq (.bool true) (D 11) w30 ∧ PEq (.bool true) (D 12) w30 ∧ PEq (.bool true) (D 13) w30 ∧ PA RInt M a_t.Lo (D 14) w30 ∧ PEq (.int .i64 a_t.Lo) (D 15) w30 ∧ PA RInt M a_t.Hi (D 16) w30 ∧ PEq (.int .i64 a_t.Hi) (D 17) w30 ∧ PEq (.bool true) (D 18) w30 ∧ PEq (.bool true) (D 19) w30 ∧ PEq (.bool true) (D 20) w30 ∧ PA RInt M a_t.Hi (D 21) w30 ∧ PEq (.int .i64 a_t.Hi) (D 22) w30 ∧ PA RInt M a_t.Field (D 23) w30 ∧ PEq (.int .i64 a_t.Field) (D 24) w30 ∧ PEq (.int .i64 x1) (D 25) w30 ∧ True := hd27
            obtain ⟨-, -, -, -, -, -, -, -, -, -, -, -, -, -, -, -, -, -, -, -, d64, -, d66, -, -, d69, -⟩ := hd27
            refine lw_sub (E' := [(23, (.bool true)), (25, (.int .i64 a_t.Hi)), (28, (.int .i64 x1)), (1, (.pointer (some p1))), (2, (.bool false))]) ⟨(congrArg some d64), (congrArg some d66), (congrArg some d69), rfl, rfl, trivial⟩ ?_
            refine lw_on rfl rfl rfl rfl rfl rfl (ow_leq rfl rfl rfl fun bb9 hbb9 => ?_)
            refine lw_op rfl rfl rfl (ow_pickT rfl rfl rfl ?_)
            refine lw_op rfl rfl rfl (ow_assign rfl rfl ?_)
            refine lw_nil ?_
            refine ew_then ?_
            refine cw_ret ?_
            obtain rfl := Option.some.inj h
            exact ew_ret (res1 rfl (.tmp rfl)) ⟨_, rfl, ((vbool_of hbb9)), hC30.bx⟩
        · refine cw_sub (E' := [(1, (.pointer (some p1))), (2, (.bool false))]) ⟨rfl, rfl, trivial⟩ ?_
          refine cw_drawQ 26 [PA RInt M a_t.Field, PEq (.int .i64 a_t.Field), PEq (.bool true), PEq (.bool true), PA RInt M a_t.Field, PEq (.int .i64 a_t.Field), PEq (.bool true), PEq (.bool true), PEq (.bool true), PA RInt M a_t.Lo, PEq (.int .i64 a_t.Lo), PEq (.bool true), PEq (.bool true), PEq (.bool true), PA RInt M a_t.Lo, PEq (.int .i64 a_t.Lo), PA RInt M a_t.Hi, PEq (.int .i64 a_t.Hi), PEq (.bool false), PEq (.bool false), PEq (.bool false), PEq undef, PEq undef, PEq undef, PEq undef, PEq undef] (by kernel_rfl) rfl (by kernel_rfl) ⟨PA.mono _ _ _, PEq.mono _, PEq.mono _, PEq.mono _, PA.mono _ _ _, PEq.mono _, PEq.mono _, PEq.mono _, PEq.mono _, PA.mono _ _ _, PEq.mono _, PEq.mono _, PEq.mono _, PEq.mono _, PA.mono _ _ _, PEq.mono _, PA.mono _ _ _, PEq.mono _, PEq.mono _, PEq.mono _, PEq.mono _, PEq.mono _, PEq.mono _, PEq.mono _, PEq.mono _, PEq.mono _, trivial⟩ ⟨?_, ?_, ?_, ?_, ?_, ?_, ?_, ?_, ?_, ?_, ?_, ?_, ?_, ?_, ?_, ?_, ?_, ?_, ?_, ?_, ?_, ?_, ?_, ?_, ?_, ?_, trivial⟩ ?_
          · intro w31 D hS28 hd28
            have hl31 := Le.no M hS28
            have hC31 := hC1.no hS28
            refine dg_sub (E' := [(1, (.pointer (some p1)))]) ⟨rfl, trivial⟩ ?_
            refine dg_plain rfl (ow_fieldAddr rfl rfl Tryd.underlying186 rfl (Tryd.sizeOf3 _) ?_)
            exact ⟨BX.refl _ _, ⟨_, rfl, (ARep.mono hl31 (hp1.fld fld_Test_Field))⟩⟩
          · intro w32 D hS29 hd29
            have hl32 := Le.no M hS29
            have hC32 := hC1.no hS29
            have hd29 : PA RInt M a_t.Field (D 0) w32 ∧ True := hd29
            obtain ⟨d70, -⟩ := hd29
            obtain ⟨p9, e8, ha8⟩ := d70
            refine dg_sub (E' := [(3, (.pointer (some p9)))]) ⟨(congrArg some e8), trivial⟩ ?_
            refine dg_plain rfl (ow_load (R := RInt) rfl rfl ha8 (Tryd.sizeOf3 _) (Tryd.isAgg3 _) fun v17 hv17 => ?_)
            obtain rfl := vint_eq hv17
            exact ⟨BX.refl _ _, rfl⟩
          · intro w33 D hS30 hd30
            have hl33 := Le.no M hS30
            have hC33 := hC1.no hS30
            have hd30 : PEq (.int .i64 a_t.Field) (D 1) w33 ∧ True := hd30
            obtain ⟨d71, -⟩ := hd30
            refine dg_sub (E' := [(4, (.int .i64 a_t.Field))]) ⟨(congrArg some d71), trivial⟩ ?_
            refine dg_plain rfl (ow_geq rfl rfl rfl fun bb10 hbb10 => ?_)
            obtain rfl := hbb10.trans hc1
            exact ⟨BX.refl _ _, rfl⟩
          · intro w34 D hS31 hd31
            have hl34 := Le.no M hS31
            have hC34 := hC1.no hS31
            have hd31 : PEq (.bool true) (D 2) w34 ∧ True := hd31
            obtain ⟨d72, -⟩ := hd31
            refine dg_sub (E' := [(5, (.bool true))]) ⟨(congrArg some d72), trivial⟩ ?_
            refine dg_plain rfl (ow_move rfl rfl ?_)
            exact ⟨BX.refl _ _, rfl⟩
          · intro w35 D hS32 hd32
            have hl35 := Le.no M hS32
            have hC35 := hC1.no hS32
            have hd32 : PEq (.bool true) (D 3) w35 ∧ True := hd32
            obtain ⟨d73, -⟩ := hd32
            refine dg_sub (E' := [(6, (.bool true)), (1, (.pointer (some p1)))]) ⟨(congrArg some d73), rfl, trivial⟩ ?_
            refine dg_on rfl rfl rfl rfl (ow_fieldAddr rfl rfl Tryd.underlying186 rfl (Tryd.sizeOf3 _) ?_)
            exact ⟨BX.refl _ _, ⟨_, rfl, (ARep.mono hl35 (hp1.fld fld_Test_Field))⟩⟩
          · intro w36 D hS33 hd33
            have hl36 := Le.no M hS33
            have hC36 := hC1.no hS33
            have hd33 : PA RInt M a_t.Field (D 4) w36 ∧ PEq (.bool true) (D 3) w36 ∧ True := hd33
            obtain ⟨d74, d75, -⟩ := hd33
            obtain ⟨p10, e9, ha9⟩ := d74
            refine dg_sub (E' := [(7, (.pointer (some p10))), (6, (.bool true))]) ⟨(congrArg some e9), (congrArg some d75), trivial⟩ ?_
            refine dg_on rfl rfl rfl rfl (ow_load (R := RInt) rfl rfl ha9 (Tryd.sizeOf3 _) (Tryd.isAgg3 _) fun v18 hv18 => ?_)
            obtain rfl := vint_eq hv18
            exact ⟨BX.refl _ _, rfl⟩
          · intro w37 D hS34 hd34
            have hl37 := Le.no M hS34
            have hC37 := hC1.no hS34
            have hd34 : PEq (.int .i64 a_t.Field) (D 5) w37 ∧ PEq (.bool true) (D 3) w37 ∧ True := hd34
            obtain ⟨d76, d77, -⟩ := hd34
            refine dg_sub (E' := [(8, (.int .i64 a_t.Field)), (6, (.bool true))]) ⟨(congrArg some d76), (congrArg some d77), trivial⟩ ?_
            refine dg_on rfl rfl rfl rfl (ow_lss rfl rfl rfl fun bb11 hbb11 => ?_)
            obtain rfl := hbb11.trans hc2
            exact ⟨BX.refl _ _, rfl⟩
          · intro w38 D hS35 hd35
            have hl38 := Le.no M hS35
            have hC38 := hC1.no hS35
            have hd35 : PEq (.bool true) (D 3) w38 ∧ PEq (.bool true) (D 6) w38 ∧ True := hd35
            obtain ⟨d78, d79, -⟩ := hd35
            refine dg_sub (E' := [(6, (.bool true)), (9, (.bool true))]) ⟨(congrArg some d78), (congrArg some d79), trivial⟩ ?_
            refine dg_plain rfl (ow_pickT rfl rfl rfl ?_)
            exact ⟨BX.refl _ _, rfl⟩
          · intro w39 D hS36 hd36
            have hl39 := Le.no M hS36
            have hC39 := hC1.no hS36
            have hd36 : PEq (.bool true) (D 7) w39 ∧ PEq (.bool true) (D 3) w39 ∧ True := hd36
            obtain ⟨d80, d81, -⟩ := hd36
            refine dg_sub (E' := [(10, (.bool true))]) ⟨(congrArg some d80), trivial⟩ ?_
            refine dg_plain rfl (ow_move rfl rfl ?_)
            exact ⟨BX.refl _ _, rfl⟩
          · intro w40 D hS37 hd37
            have hl40 := Le.no M hS37
            have hC40 := hC1.no hS37
            have hd37 : PEq (.bool true) (D 8) w40 ∧ True := hd37
            obtain ⟨d82, -⟩ := hd37
            refine dg_sub (E' := [(11, (.bool true)), (1, (.pointer (some p1)))]) ⟨(congrArg some d82), rfl, trivial⟩ ?_
            refine dg_on rfl rfl rfl rfl (ow_fieldAddr rfl rfl Tryd.underlying186 rfl (Tryd.sizeOf3 _) ?_)
            exact ⟨BX.refl _ _, ⟨_, rfl, (ARep.mono hl40 (hp1.fld fld_Test_Lo))⟩⟩
          · intro w41 D hS38 hd38
            have hl41 := Le.no M hS38
            have hC41 := hC1.no hS38
            have hd38 : PA RInt M a_t.Lo (D 9) w41 ∧ PEq (.bool true) (D 8) w41 ∧ True := hd38
            obtain ⟨d83, d84, -⟩ := hd38
            obtain ⟨p11, e10, ha10⟩ := d83
            refine dg_sub (E' := [(12, (.pointer (some p11))), (11, (.bool true))]) ⟨(congrArg some e10), (congrArg some d84), trivial⟩ ?_
            refine dg_on rfl rfl rfl rfl (ow_load (R := RInt) rfl rfl ha10 (Tryd.sizeOf3 _) (Tryd.isAgg3 _) fun v19 hv19 => ?_)
            obtain rfl := vint_eq hv19
            exact ⟨BX.refl _ _, rfl⟩
          · intro w42 D hS39 hd39
            have hl42 := Le.no M hS39
            have hC42 := hC1.no hS39
            have hd39 : PEq (.int .i64 a_t.Lo) (D 10) w42 ∧ PEq (.bool true) (D 8) w42 ∧ True := hd39
            obtain ⟨d85, d86, -⟩ := hd39
            refine dg_sub (E' := [(13, (.int .i64 a_t.Lo)), (11, (.bool true))]) ⟨(congrArg some d85), (congrArg some d86), trivial⟩ ?_
            refine dg_on rfl rfl rfl rfl (ow_geq rfl rfl rfl fun bb12 hbb12 => ?_)
            obtain rfl := hbb12.trans hc3
            exact ⟨BX.refl _ _, rfl⟩
          · intro w43 D hS40 hd40
            have hl43 := Le.no M hS40
            have hC43 := hC1.no hS40
            have hd40 : PEq (.bool true) (D 8) w43 ∧ PEq (.bool true) (D 11) w43 ∧ True := hd40
            obtain ⟨d87, d88, -⟩ := hd40
            refine dg_sub (E' := [(11, (.bool true)), (14, (.bool true))]) ⟨(congrArg some d87), (congrArg some d88), trivial⟩ ?_
            refine dg_plain rfl (ow_pickT rfl rfl rfl ?_)
            exact ⟨BX.refl _ _, rfl⟩
          · intro w44 D hS41 hd41
            have hl44 := Le.no M hS41
            have hC44 := hC1.no hS41
            have hd41 : PEq (.bool true) (D 12) w44 ∧ PEq (.bool true) (D 8) w44 ∧ True := hd41
            obtain ⟨d89, d90, -⟩ := hd41
            refine dg_sub (E' := [(15, (.bool true))]) ⟨(congrArg some d89), trivial⟩ ?_
            refine dg_plain rfl (ow_move rfl rfl ?_)
            exact ⟨BX.refl _ _, rfl⟩
          · intro w45 D hS42 hd42
            have hl45 := Le.no M hS42
            have hC45 := hC1.no hS42
            have hd42 : PEq (.bool true) (D 13) w45 ∧ True := hd42
            obtain ⟨d91, -⟩ := hd42
            refine dg_sub (E' := [(16, (.bool true)), (1, (.pointer (some p1)))]) ⟨(congrArg some d91), rfl, trivial⟩ ?_
            refine dg_on rfl rfl rfl rfl (ow_fieldAddr rfl rfl Tryd.underlying186 rfl (Tryd.sizeOf3 _) ?_)
            exact ⟨BX.refl _ _, ⟨_, rfl, (ARep.mono hl45 (hp1.fld fld_Test_Lo))⟩⟩
          · intro w46 D hS43 hd43
            have hl46 := Le.no M hS43
            have hC46 := hC1.no hS43
            have hd43 : PA RInt M a_t.Lo (D 14) w46 ∧ PEq (.bool true) (D 13) w46 ∧ True := hd43
            obtain ⟨d92, d93, -⟩ := hd43
            obtain ⟨p12, e11, ha11⟩ := d92
            refine dg_sub (E' := [(17, (.pointer (some p12))), (16, (.bool true))]) ⟨(congrArg some e11), (congrArg some d93), trivial⟩ ?_
            refine dg_on rfl rfl rfl rfl (ow_load (R := RInt) rfl rfl ha11 (Tryd.sizeOf3 _) (Tryd.isAgg3 _) fun v20 hv20 => ?_)
            obtain rfl := vint_eq hv20
            exact ⟨BX.refl _ _, rfl⟩
          · intro w47 D hS44 hd44
            have hl47 := Le.no M hS44
            have hC47 := hC1.no hS44
            have hd44 : PEq (.bool true) (D 13) w47 ∧ True := hd44
            obtain ⟨d94, -⟩ := hd44
            refine dg_sub (E' := [(16, (.bool true)), (1, (.pointer (some p1)))]) ⟨(congrArg some d94), rfl, trivial⟩ ?_
            refine dg_on rfl rfl rfl rfl (ow_fieldAddr rfl rfl Tryd.underlying186 rfl (Tryd.sizeOf3 _) ?_)
            exact ⟨BX.refl _ _, ⟨_, rfl, (ARep.mono hl47 (hp1.fld fld_Test_Hi))⟩⟩
          · intro w48 D hS45 hd45
            have hl48 := Le.no M hS45
            have hC48 := hC1.no hS45
            have hd45 : PA RInt M a_t.Hi (D 16) w48 ∧ PEq (.bool true) (D 13) w48 ∧ True := hd45
            obtain ⟨d95, d96, -⟩ := hd45
            obtain ⟨p13, e12, ha12⟩ := d95
            refine dg_sub (E' := [(19, (.pointer (some p13))), (16, (.bool true))]) ⟨(congrArg some e12), (congrArg some d96), trivial⟩ ?_
            refine dg_on rfl rfl rfl rfl (ow_load (R := RInt) rfl rfl ha12 (Tryd.sizeOf3 _) (Tryd.isAgg3 _) fun v21 hv21 => ?_)
            obtain rfl := vint_eq hv21
            exact ⟨BX.refl _ _, rfl⟩
          · intro w49 D hS46 hd46
            have hl49 := Le.no M hS46
            have hC49 := hC1.no hS46
            have hd46 : PEq (.int .i64 a_t.Lo) (D 15) w49 ∧ PEq (.int .i64 a_t.Hi) (D 17) w49 ∧ PEq (.bool true) (D 13) w49 ∧ True := hd46
            obtain ⟨d97, d98, d99, -⟩ := hd46
            refine dg_sub (E' := [(18, (.int .i64 a_t.Lo)), (20, (.int .i64 a_t.Hi)), (16, (.bool true))]) ⟨(congrArg some d97), (congrArg some d98), (congrArg some d99), trivial⟩ ?_
            refine dg_on rfl rfl rfl rfl (ow_leq rfl rfl rfl fun bb13 hbb13 => ?_)
            obtain rfl := hbb13.trans hc4
            exact ⟨BX.refl _ _, rfl⟩
          · intro w50 D hS47 hd47
            have hl50 := Le.no M hS47
            have hC50 := hC1.no hS47
            have hd47 : PEq (.bool true) (D 13) w50 ∧ PEq (.bool false) (D 18) w50 ∧ True := hd47
            obtain ⟨d100, d101, -⟩ := hd47
            refine dg_sub (E' := [(16, (.bool true)), (21, (.bool false))]) ⟨(congrArg some d100), (congrArg some d101), trivial⟩ ?_
            refine dg_plain rfl (ow_pickT rfl rfl rfl ?_)
            exact ⟨BX.refl _ _, rfl⟩
          · intro w51 D hS48 hd48
            have hl51 := Le.no M hS48
            have hC51 := hC1.no hS48
            have hd48 : PEq (.bool false) (D 19) w51 ∧ PEq (.bool true) (D 13) w51 ∧ True := hd48
            obtain ⟨d102, d103, -⟩ := hd48
            refine dg_sub (E' := [(22, (.bool false))]) ⟨(congrArg some d102), trivial⟩ ?_
            refine dg_plain rfl (ow_move rfl rfl ?_)
            exact ⟨BX.refl _ _, rfl⟩
          · intro w52 D hS49 hd49
            have hl52 := Le.no M hS49
            have hC52 := hC1.no hS49
            have hd49 : PEq (.bool false) (D 20) w52 ∧ True := hd49
            obtain ⟨d104, -⟩ := hd49
            refine dg_sub (E' := [(23, (.bool false)), (1, (.pointer (some p1)))]) ⟨(congrArg some d104), rfl, trivial⟩ ?_
            exact dg_off rfl rfl rfl rfl ⟨BX.refl _ _, rfl⟩
          · intro w53 D hS50 hd50
            have hl53 := Le.no M hS50
            have hC53 := hC1.no hS50
            have hd50 : PEq undef (D 21) w53 ∧ PEq (.bool false) (D 20) w53 ∧ True := hd50
            obtain ⟨d105, d106, -⟩ := hd50
            refine dg_sub (E' := [(24, undef), (23, (.bool false))]) ⟨(congrArg some d105), (congrArg some d106), trivial⟩ ?_
            exact dg_off rfl rfl rfl rfl ⟨BX.refl _ _, rfl⟩
          · intro w54 D hS51 hd51
            have hl54 := Le.no M hS51
            have hC54 := hC1.no hS51
            have hd51 : PEq (.bool false) (D 20) w54 ∧ True := hd51
            obtain ⟨d107, -⟩ := hd51
            refine dg_sub (E' := [(23, (.bool false)), (1, (.pointer (some p1)))]) ⟨(congrArg some d107), rfl, trivial⟩ ?_
            exact dg_off rfl rfl rfl rfl ⟨BX.refl _ _, rfl⟩
          · intro w55 D hS52 hd52
            have hl55 := Le.no M hS52
            have hC55 := hC1.no hS52
            have hd52 : PEq undef (D 23) w55 ∧ PEq (.bool false) (D 20) w55 ∧ True := hd52
            obtain ⟨d108, d109, -⟩ := hd52
            refine dg_sub (E' := [(26, undef), (23, (.bool false))]) ⟨(congrArg some d108), (congrArg some d109), trivial⟩ ?_
            exact dg_off rfl rfl rfl rfl ⟨BX.refl _ _, rfl⟩
          · intro w56 D hS53 hd53
            have hl56 := Le.no M hS53
            have hC56 := hC1.no hS53
            have hd53 : PEq undef (D 24) w56 ∧ PEq (.bool false) (D 20) w56 ∧ PEq (.bool false) (D 20) w56 ∧ True := hd53
            obtain ⟨d110, d111, d112, -⟩ := hd53
            refine dg_sub (E' := [(27, undef), (23, (.bool false))]) ⟨(congrArg some d110), (congrArg some d111), trivial⟩ ?_
            exact dg_off rfl rfl rfl rfl ⟨BX.refl _ _, rfl⟩
          · intro w57 D hS54 hd54
            have hl57 := Le.no M hS54
            have hC57 := hC1.no hS54
            have hd54 : PA RInt M a_t.Field (D 0) w57 ∧ PEq (.int .i64 a_t.Field) (D 1) w57 ∧ PEq (.bool true) (D 2) w57 ∧ PEq (.bool true) (D 3) w57 ∧ PA RInt M a_t.Field (D 4) w57 ∧ PEq (.int .i64 a_t.Field) (D 5) w57 ∧ PEq (.bool true) (D 6) w57 ∧ PEq (.bool true) (D 7) w57 ∧ PEq (.bool true) (D 8) w57 ∧ PA RInt M a_t.Lo (D 9) w57 ∧ PEq (.int .i64 a_t.Lo) (D 10) w57 ∧ PEq (.bool true) (D 11) w57 ∧ PEq (.bool true) (D 12) w57 ∧ PEq (.bool true) (D 13) w57 ∧ PA RInt M a_t.Lo (D 14) w57 ∧ PEq (.int .i64 a_t.Lo) (D 15) w57 ∧ PA RInt M a_t.Hi (D 16) w57 ∧ PEq (.int .i64 a_t.Hi) (D 17) w57 ∧ PEq (.bool false) (D 18) w57 ∧ PEq (.bool false) (D 19) w57 ∧ PEq (.bool false) (D 20) w57 ∧ PEq undef (D 21) w57 ∧ PEq undef (D 22) w57 ∧ PEq undef (D 23) w57 ∧ PEq undef (D 24) w57 ∧ PEq undef (D 25) w57 ∧ True := hd54
            obtain ⟨-, -, -, -, -, -, -, -, -, -, -, -, -, -, -, -, -, -, -, -, d133, -, d135, -, -, d138, -⟩ := hd54
            refine lw_sub (E' := [(23, (.bool false)), (25, undef), (28, undef), (1, (.pointer (some p1))), (2, (.bool false))]) ⟨(congrArg some d133), (congrArg some d135), (congrArg some d138), rfl, rfl, trivial⟩ ?_
            refine lw_off rfl rfl rfl rfl rfl rfl ?_
            refine lw_op rfl rfl rfl (ow_pickF rfl rfl rfl ?_)
            refine lw_op rfl rfl rfl (ow_assign rfl rfl ?_)
            refine lw_nil ?_
            refine ew_then ?_
            refine cw_ret ?_
            obtain rfl := Option.some.inj h
            exact ew_ret (res1 rfl (.tmp rfl)) ⟨_, rfl, ((vbool _)), hC57.bx⟩
      · refine cw_sub (E' := [(1, (.pointer (some p1))), (2, (.bool false))]) ⟨rfl, rfl, trivial⟩ ?_
        refine cw_drawQ 26 [PA RInt M a_t.Field, PEq (.int .i64 a_t.Field), PEq (.bool true), PEq (.bool true), PA RInt M a_t.Field, PEq (.int .i64 a_t.Field), PEq (.bool true), PEq (.bool true), PEq (.bool true), PA RInt M a_t.Lo, PEq (.int .i64 a_t.Lo), PEq (.bool false), PEq (.bool false), PEq (.bool false), PEq undef, PEq undef, PEq undef, PEq undef, PEq undef, PEq (.bool false), PEq (.bool false), PEq undef, PEq undef, PEq undef, PEq undef, PEq undef] (by kernel_rfl) rfl (by kernel_rfl) ⟨PA.mono _ _ _, PEq.mono _, PEq.mono _, PEq.mono _, PA.mono _ _ _, PEq.mono _, PEq.mono _, PEq.mono _, PEq.mono _, PA.mono _ _ _, PEq.mono _, PEq.mono _, PEq.mono _, PEq.mono _, PEq.mono _, PEq.mono _, PEq.mono _, PEq.mono _, PEq.mono _, PEq.mono _, PEq.mono _, PEq.mono _, PEq.mono _, PEq.mono _, PEq.mono _, PEq.mono _, trivial⟩ ⟨?_, ?_, ?_, ?_, ?_, ?_, ?_, ?_, ?_, ?_, ?_, ?_, ?_, ?_, ?_, ?_, ?_, ?_, ?_, ?_, ?_, ?_, ?_, ?_, ?_, ?_, trivial⟩ ?_
        · intro w58 D hS55 hd55
          have hl58 := Le.no M hS55
          have hC58 := hC1.no hS55
          refine dg_sub (E' := [(1, (.pointer (some p1)))]) ⟨rfl, trivial⟩ ?_
          refine dg_plain rfl (ow_fieldAddr rfl rfl Tryd.underlying186 rfl (Tryd.sizeOf3 _) ?_)
          exact ⟨BX.refl _ _, ⟨_, rfl, (ARep.mono hl58 (hp1.fld fld_Test_Field))⟩⟩
        · intro w59 D hS56 hd56
          have hl59 := Le.no M hS56
          have hC59 := hC1.no hS56
          have hd56 : PA RInt M a_t.Field (D 0) w59 ∧ True := hd56
          obtain ⟨d139, -⟩ := hd56
          obtain ⟨p14, e13, ha13⟩ := d139
          refine dg_sub (E' := [(3, (.pointer (some p14)))]) ⟨(congrArg some e13), trivial⟩ ?_
          refine dg_plain rfl (ow_load (R := RInt) rfl rfl ha13 (Tryd.sizeOf3 _) (Tryd.isAgg3 _) fun v22 hv22 => ?_)
          obtain rfl := vint_eq hv22
          exact ⟨BX.refl _ _, rfl⟩
        · intro w60 D hS57 hd57
          have hl60 := Le.no M hS57
          have hC60 := hC1.no hS57
          have hd57 : PEq (.int .i64 a_t.Field) (D 1) w60 ∧ True := hd57
          obtain ⟨d140, -⟩ := hd57
          refine dg_sub (E' := [(4, (.int .i64 a_t.Field))]) ⟨(congrArg some d140), trivial⟩ ?_
          refine dg_plain rfl (ow_geq rfl rfl rfl fun bb14 hbb14 => ?_)
          obtain rfl := hbb14.trans hc1
          exact ⟨BX.refl _ _, rfl⟩
        · intro w61 D hS58 hd58
          have hl61 := Le.no M hS58
          have hC61 := hC1.no hS58
          have hd58 : PEq (.bool true) (D 2) w61 ∧ True := hd58
          obtain ⟨d141, -⟩ := hd58
          refine dg_sub (E' := [(5, (.bool true))]) ⟨(congrArg some d141), trivial⟩ ?_
          refine dg_plain rfl (ow_move rfl rfl ?_)
          exact ⟨BX.refl _ _, rfl⟩
        · intro w62 D hS59 hd59
          have hl62 := Le.no M hS59
          have hC62 := hC1.no hS59
          have hd59 : PEq (.bool true) (D 3) w62 ∧ True := hd59
          obtain ⟨d142, -⟩ := hd59
          refine dg_sub (E' := [(6, (.bool true)), (1, (.pointer (some p1)))]) ⟨(congrArg some d142), rfl, trivial⟩ ?_
          refine dg_on rfl rfl rfl rfl (ow_fieldAddr rfl rfl Tryd.underlying186 rfl (Tryd.sizeOf3 _) ?_)
          exact ⟨BX.refl _ _, ⟨_, rfl, (ARep.mono hl62 (hp1.fld fld_Test_Field))⟩⟩
        · intro w63 D hS60 hd60
          have hl63 := Le.no M hS60
          have hC63 := hC1.no hS60
          have hd60 : PA RInt M a_t.Field (D 4) w63 ∧ PEq (.bool true) (D 3) w63 ∧ True := hd60
          obtain ⟨d143, d144, -⟩ := hd60
          obtain ⟨p15, e14, ha14⟩ := d143
          refine dg_sub (E' := [(7, (.pointer (some p15))), (6, (.bool true))]) ⟨(congrArg some e14), (congrArg some d144), trivial⟩ ?_
          refine dg_on rfl rfl rfl rfl (ow_load (R := RInt) rfl rfl ha14 (Tryd.sizeOf3 _) (Tryd.isAgg3 _) fun v23 hv23 => ?_)
          obtain rfl := vint_eq hv23
          exact ⟨BX.refl _ _, rfl⟩
        · intro w64 D hS61 hd61
          have hl64 := Le.no M hS61
          have hC64 := hC1.no hS61
          have hd61 : PEq (.int .i64 a_t.Field) (D 5) w64 ∧ PEq (.bool true) (D 3) w64 ∧ True := hd61
          obtain ⟨d145, d146, -⟩ := hd61
          refine dg_sub (E' := [(8, (.int .i64 a_t.Field)), (6, (.bool true))]) ⟨(congrArg some d145), (congrArg some d146), trivial⟩ ?_
          refine dg_on rfl rfl rfl rfl (ow_lss rfl rfl rfl fun bb15 hbb15 => ?_)
          obtain rfl := hbb15.trans hc2
          exact ⟨BX.refl _ _, rfl⟩
        · intro w65 D hS62 hd62
          have hl65 := Le.no M hS62
          have hC65 := hC1.no hS62
          have hd62 : PEq (.bool true) (D 3) w65 ∧ PEq (.bool true) (D 6) w65 ∧ True := hd62
          obtain ⟨d147, d148, -⟩ := hd62
          refine dg_sub (E' := [(6, (.bool true)), (9, (.bool true))]) ⟨(congrArg some d147), (congrArg some d148), trivial⟩ ?_
          refine dg_plain rfl (ow_pickT rfl rfl rfl ?_)
          exact ⟨BX.refl _ _, rfl⟩
        · intro w66 D hS63 hd63
          have hl66 := Le.no M hS63
          have hC66 := hC1.no hS63
          have hd63 : PEq (.bool true) (D 7) w66 ∧ PEq (.bool true) (D 3) w66 ∧ True := hd63
          obtain ⟨d149, d150, -⟩ := hd63
          refine dg_sub (E' := [(10, (.bool true))]) ⟨(congrArg some d149), trivial⟩ ?_
          refine dg_plain rfl (ow_move rfl rfl ?_)
          exact ⟨BX.refl _ _, rfl⟩
        · intro w67 D hS64 hd64
          have hl67 := Le.no M hS64
          have hC67 := hC1.no hS64
          have hd64 : PEq (.bool true) (D 8) w67 ∧ True := hd64
          obtain ⟨d151, -⟩ := hd64
          refine dg_sub (E' := [(11, (.bool true)), (1, (.pointer (some p1)))]) ⟨(congrArg some d151), rfl, trivial⟩ ?_
          refine dg_on rfl rfl rfl rfl (ow_fieldAddr rfl rfl Tryd.underlying186 rfl (Tryd.sizeOf3 _) ?_)
          exact ⟨BX.refl _ _, ⟨_, rfl, (ARep.mono hl67 (hp1.fld fld_Test_Lo))⟩⟩
        · intro w68 D hS65 hd65
          have hl68 := Le.no M hS65
          have hC68 := hC1.no hS65
          have hd65 : PA RInt M a_t.Lo (D 9) w68 ∧ PEq (.bool true) (D 8) w68 ∧ True := hd65
          obtain ⟨d152, d153, -⟩ := hd65
          obtain ⟨p16, e15, ha15⟩ := d152
          refine dg_sub (E' := [(12, (.pointer (some p16))), (11, (.bool true))]) ⟨(congrArg some e15), (congrArg some d153), trivial⟩ ?_
          refine dg_on rfl rfl rfl rfl (ow_load (R := RInt) rfl rfl ha15 (Tryd.sizeOf3 _) (Tryd.isAgg3 _) fun v24 hv24 => ?_)
          obtain rfl := vint_eq hv24
          exact ⟨BX.refl _ _, rfl⟩
        · intro w69 D hS66 hd66
          have hl69 := Le.no M hS66
          have hC69 := hC1.no hS66
          have hd66 : PEq (.int .i64 a_t.Lo) (D 10) w69 ∧ PEq (.bool true) (D 8) w69 ∧ True := hd66
          obtain ⟨d154, d155, -⟩ := hd66
          refine dg_sub (E' := [(13, (.int .i64 a_t.Lo)), (11, (.bool true))]) ⟨(congrArg some d154), (congrArg some d155), trivial⟩ ?_
          refine dg_on rfl rfl rfl rfl (ow_geq rfl rfl rfl fun bb16 hbb16 => ?_)
          obtain rfl := hbb16.trans hc3
          exact ⟨BX.refl _ _, rfl⟩
        · intro w70 D hS67 hd67
          have hl70 := Le.no M hS67
          have hC70 := hC1.no hS67
          have hd67 : PEq (.bool true) (D 8) w70 ∧ PEq (.bool false) (D 11) w70 ∧ True := hd67
          obtain ⟨d156, d157, -⟩ := hd67
          refine dg_sub (E' := [(11, (.bool true)), (14, (.bool false))]) ⟨(congrArg some d156), (congrArg some d157), trivial⟩ ?_
          refine dg_plain rfl (ow_pickT rfl rfl rfl ?_)
          exact ⟨BX.refl _ _, rfl⟩
        · intro w71 D hS68 hd68
          have hl71 := Le.no M hS68
          have hC71 := hC1.no hS68
          have hd68 : PEq (.bool false) (D 12) w71 ∧ PEq (.bool true) (D 8) w71 ∧ True := hd68
          obtain ⟨d158, d159, -⟩ := hd68
          refine dg_sub (E' := [(15, (.bool false))]) ⟨(congrArg some d158), trivial⟩ ?_
          refine dg_plain rfl (ow_move rfl rfl ?_)
          exact ⟨BX.refl _ _, rfl⟩
        · intro w72 D hS69 hd69
          have hl72 := Le.no M hS69
          have hC72 := hC1.no hS69
          have hd69 : PEq (.bool false) (D 13) w72 ∧ True := hd69
          obtain ⟨d160, -⟩ := hd69
          refine dg_sub (E' := [(16, (.bool false)), (1, (.pointer (some p1)))]) ⟨(congrArg some d160), rfl, trivial⟩ ?_
          exact dg_off rfl rfl rfl rfl ⟨BX.refl _ _, rfl⟩
        · intro w73 D hS70 hd70
          have hl73 := Le.no M hS70
          have hC73 := hC1.no hS70
          have hd70 : PEq undef (D 14) w73 ∧ PEq (.bool false) (D 13) w73 ∧ True := hd70
          obtain ⟨d161, d162, -⟩ := hd70
          refine dg_sub (E' := [(17, undef), (16, (.bool false))]) ⟨(congrArg some d161), (congrArg some d162), trivial⟩ ?_
          exact dg_off rfl rfl rfl rfl ⟨BX.refl _ _, rfl⟩
        · intro w74 D hS71 hd71
          have hl74 := Le.no M hS71
          have hC74 := hC1.no hS71
          have hd71 : PEq (.bool false) (D 13) w74 ∧ True := hd71
          obtain ⟨d163, -⟩ := hd71
          refine dg_sub (E' := [(16, (.bool false)), (1, (.pointer (some p1)))]) ⟨(congrArg some d163), rfl, trivial⟩ ?_
          exact dg_off rfl rfl rfl rfl ⟨BX.refl _ _, rfl⟩
        · intro w75 D hS72 hd72
          have hl75 := Le.no M hS72
          have hC75 := hC1.no hS72
          have hd72 : PEq undef (D 16) w75 ∧ PEq (.bool false) (D 13) w75 ∧ True := hd72
          obtain ⟨d164, d165, -⟩ := hd72
          refine dg_sub (E' := [(19, undef), (16, (.bool false))]) ⟨(congrArg some d164), (congrArg some d165), trivial⟩ ?_
          exact dg_off rfl rfl rfl rfl ⟨BX.refl _ _, rfl⟩
        · intro w76 D hS73 hd73
          have hl76 := Le.no M hS73
          have hC76 := hC1.no hS73
          have hd73 : PEq undef (D 15) w76 ∧ PEq undef (D 17) w76 ∧ PEq (.bool false) (D 13) w76 ∧ True := hd73
          obtain ⟨d166, d167, d168, -⟩ := hd73
          refine dg_sub (E' := [(18, undef), (20, undef), (16, (.bool false))]) ⟨(congrArg some d166), (congrArg some d167), (congrArg some d168), trivial⟩ ?_
          exact dg_off rfl rfl rfl rfl ⟨BX.refl _ _, rfl⟩
        · intro w77 D hS74 hd74
          have hl77 := Le.no M hS74
          have hC77 := hC1.no hS74
          have hd74 : PEq (.bool false) (D 13) w77 ∧ PEq undef (D 18) w77 ∧ True := hd74
          obtain ⟨d169, d170, -⟩ := hd74
          refine dg_sub (E' := [(16, (.bool false)), (21, undef)]) ⟨(congrArg some d169), (congrArg some d170), trivial⟩ ?_
          refine dg_plain rfl (ow_pickF rfl rfl rfl ?_)
          exact ⟨BX.refl _ _, rfl⟩
        · intro w78 D hS75 hd75
          have hl78 := Le.no M hS75
          have hC78 := hC1.no hS75
          have hd75 : PEq (.bool false) (D 19) w78 ∧ PEq (.bool false) (D 13) w78 ∧ True := hd75
          obtain ⟨d171, d172, -⟩ := hd75
          refine dg_sub (E' := [(22, (.bool false))]) ⟨(congrArg some d171), trivial⟩ ?_
          refine dg_plain rfl (ow_move rfl rfl ?_)
          exact ⟨BX.refl _ _, rfl⟩
        · intro w79 D hS76 hd76
          have hl79 := Le.no M hS76
          have hC79 := hC1.no hS76
          have hd76 : PEq (.bool false) (D 20) w79 ∧ True := hd76
          obtain ⟨d173, -⟩ := hd76
          refine dg_sub (E' := [(23, (.bool false)), (1, (.pointer (some p1)))]) ⟨(congrArg some d173), rfl, trivial⟩ ?_
          exact dg_off rfl rfl rfl rfl ⟨BX.refl _ _, rfl⟩
        · intro w80 D hS77 hd77
          have hl80 := Le.no M hS77
          have hC80 := hC1.no hS77
          have hd77 : PEq undef (D 21) w80 ∧ PEq (.bool false) (D 20) w80 ∧ True := hd77
          obtain ⟨d174, d175, -⟩ := hd77
          refine dg_sub (E' := [(24, undef), (23, (.bool false))]) ⟨(congrArg some d174), (congrArg some d175), trivial⟩ ?_
          exact dg_off rfl rfl rfl rfl ⟨BX.refl _ _, rfl⟩
        · intro w81 D hS78 hd78
          have hl81 := Le.no M hS78
          have hC81 := hC1.no hS78
          have hd78 : PEq (.bool false) (D 20) w81 ∧ True := hd78
          obtain ⟨d176, -⟩ := hd78
          refine dg_sub (E' := [(23, (.bool false)), (1, (.pointer (some p1)))]) ⟨(congrArg some d176), rfl, trivial⟩ ?_
          exact dg_off rfl rfl rfl rfl ⟨BX.refl _ _, rfl⟩
        · intro w82 D hS79 hd79
          have hl82 := Le.no M hS79
          have hC82 := hC1.no hS79
          have hd79 : PEq undef (D 23) w82 ∧ PEq (.bool false) (D 20) w82 ∧ True := hd79
          obtain ⟨d177, d178, -⟩ := hd79
          refine dg_sub (E' := [(26, undef), (23, (.bool false))]) ⟨(congrArg some d177), (congrArg some d178), trivial⟩ ?_
          exact dg_off rfl rfl rfl rfl ⟨BX.refl _ _, rfl⟩
        · intro w83 D hS80 hd80
          have hl83 := Le.no M hS80
          have hC83 := hC1.no hS80
          have hd80 : PEq undef (D 24) w83 ∧ PEq (.bool false) (D 20) w83 ∧ PEq (.bool false) (D 20) w83 ∧ True := hd80
          obtain ⟨d179, d180, d181, -⟩ := hd80
          refine dg_sub (E' := [(27, undef), (23, (.bool false))]) ⟨(congrArg some d179), (congrArg some d180), trivial⟩ ?_
          exact dg_off rfl rfl rfl rfl ⟨BX.refl _ _, rfl⟩
        · intro w84 D hS81 hd81
          have hl84 := Le.no M hS81
          have hC84 := hC1.no hS81
          have hd81 : PA RInt M a_t.Field (D 0) w84 ∧ PEq (.int .i64 a_t.Field) (D 1) w84 ∧ PEq (.bool true) (D 2) w84 ∧ PEq (.bool true) (D 3) w84 ∧ PA RInt M a_t.Field (D 4) w84 ∧ PEq (.int .i64 a_t.Field) (D 5) w84 ∧ PEq (.bool true) (D 6) w84 ∧ PEq (.bool true) (D 7) w84 ∧ PEq (.bool true) (D 8) w84 ∧ PA RInt M a_t.Lo (D 9) w84 ∧ PEq (.int .i64 a_t.Lo) (D 10) w84 ∧ PEq (.bool false) (D 11) w84 ∧ PEq (.bool false) (D 12) w84 ∧ PEq (.bool false) (D 13) w84 ∧ PEq undef (D 14) w84 ∧ PEq undef (D 15) w84 ∧ PEq undef (D 16) w84 ∧ PEq undef (D 17) w84 ∧ PEq undef (D 18) w84 ∧ PEq (.bool false) (D 19) w84 ∧ PEq (.bool false) (D 20) w84 ∧ PEq undef (D 21) w84 ∧ PEq undef (D 22) w84 ∧ PEq undef (D 23) w84 ∧ PEq undef (D 24) w84 ∧ PEq undef (D 25) w84 ∧ True := hd81
          obtain ⟨-, -, -, -, -, -, -, -, -, -, -, -, -, -, -, -, -, -, -, -, d202, -, d204, -, -, d207, -⟩ := hd81
          refine lw_sub (E' := [(23, (.bool false)), (25, undef), (28, undef), (1, (.pointer (some p1))), (2, (.bool false))]) ⟨(congrArg some d202), (congrArg some d204), (congrArg some d207), rfl, rfl, trivial⟩ ?_
          refine lw_off rfl rfl rfl rfl rfl rfl ?_
          refine lw_op rfl rfl rfl (ow_pickF rfl rfl rfl ?_)
          refine lw_op rfl rfl rfl (ow_assign rfl rfl ?_)
          refine lw_nil ?_
          refine ew_then ?_
          refine cw_ret ?_
          obtain rfl := Option.some.inj h
          exact ew_ret (res1 rfl (.tmp rfl)) ⟨_, rfl, ((vbool _)), hC84.bx⟩
    · refine cw_sub (E' := [(1, (.pointer (some p1))), (2, (.bool false))]) ⟨rfl, rfl, trivial⟩ ?_
      refine cw_drawQ 26 [PA RInt M a_t.Field, PEq (.int .i64 a_t.Field), PEq (.bool true), PEq (.bool true), PA RInt M a_t.Field, PEq (.int .i64 a_t.Field), PEq (.bool false), PEq (.bool false), PEq (.bool false), PEq undef, PEq undef, PEq undef, PEq (.bool false), PEq (.bool false), PEq undef, PEq undef, PEq undef, PEq undef, PEq undef, PEq (.bool false), PEq (.bool false), PEq undef, PEq undef, PEq undef, PEq undef, PEq undef] (by kernel_rfl) rfl (by kernel_rfl) ⟨PA.mono _ _ _, PEq.mono _, PEq.mono _, PEq.mono _, PA.mono _ _ _, PEq.mono _, PEq.mono _, PEq.mono _, PEq.mono _, PEq.mono _, PEq.mono _, PEq.mono _, PEq.mono _, PEq.mono _, PEq.mono _, PEq.mono _, PEq.mono _, PEq.mono _, PEq.mono _, PEq.mono _, PEq.mono _, PEq.mono _, PEq.mono _, PEq.mono _, PEq.mono _, PEq.mono _, trivial⟩ ⟨?_, ?_, ?_, ?_, ?_, ?_, ?_, ?_, ?_, ?_, ?_, ?_, ?_, ?_, ?_, ?_, ?_, ?_, ?_, ?_, ?_, ?_, ?_, ?_, ?_, ?_, trivial⟩ ?_
      · intro w85 D hS82 hd82
        have hl85 := Le.no M hS82
        have hC85 := hC1.no hS82
        refine dg_sub (E' := [(1, (.pointer (some p1)))]) ⟨rfl, trivial⟩ ?_
        refine dg_plain rfl (ow_fieldAddr rfl rfl Tryd.underlying186 rfl (Tryd.sizeOf3 _) ?_)
        exact ⟨BX.refl _ _, ⟨_, rfl, (ARep.mono hl85 (hp1.fld fld_Test_Field))⟩⟩
      · intro w86 D hS83 hd83
        have hl86 := Le.no M hS83
        have hC86 := hC1.no hS83
        have hd83 : PA RInt M a_t.Field (D 0) w86 ∧ True := hd83
        obtain ⟨d208, -⟩ := hd83
        obtain ⟨p17, e16, ha16⟩ := d208
        refine dg_sub (E' := [(3, (.pointer (some p17)))]) ⟨(congrArg some e16), trivial⟩ ?_
        refine dg_plain rfl (ow_load (R := RInt) rfl rfl ha16 (Tryd.sizeOf3 _) (Tryd.isAgg3 _) fun v25 hv25 => ?_)
        obtain rfl := vint_eq hv25
        exact ⟨BX.refl _ _, rfl⟩
      · intro w87 D hS84 hd84
        have hl87 := Le.no M hS84
        have hC87 := hC1.no hS84
        have hd84 : PEq (.int .i64 a_t.Field) (D 1) w87 ∧ True := hd84
        obtain ⟨d209, -⟩ := hd84
        refine dg_sub (E' := [(4, (.int .i64 a_t.Field))]) ⟨(congrArg some d209), trivial⟩ ?_
        refine dg_plain rfl (ow_geq rfl rfl rfl fun bb17 hbb17 => ?_)
        obtain rfl := hbb17.trans hc1
        exact ⟨BX.refl _ _, rfl⟩
      · intro w88 D hS85 hd85
        have hl88 := Le.no M hS85
        have hC88 := hC1.no hS85
        have hd85 : PEq (.bool true) (D 2) w88 ∧ True := hd85
        obtain ⟨d210, -⟩ := hd85
        refine dg_sub (E' := [(5, (.bool true))]) ⟨(congrArg some d210), trivial⟩ ?_
        refine dg_plain rfl (ow_move rfl rfl ?_)
        exact ⟨BX.refl _ _, rfl⟩
      · intro w89 D hS86 hd86
        have hl89 := Le.no M hS86
        have hC89 := hC1.no hS86
        have hd86 : PEq (.bool true) (D 3) w89 ∧ True := hd86
        obtain ⟨d211, -⟩ := hd86
        refine dg_sub (E' := [(6, (.bool true)), (1, (.pointer (some p1)))]) ⟨(congrArg some d211), rfl, trivial⟩ ?_
        refine dg_on rfl rfl rfl rfl (ow_fieldAddr rfl rfl Tryd.underlying186 rfl (Tryd.sizeOf3 _) ?_)
        exact ⟨BX.refl _ _, ⟨_, rfl, (ARep.mono hl89 (hp1.fld fld_Test_Field))⟩⟩
      · intro w90 D hS87 hd87
        have hl90 := Le.no M hS87
        have hC90 := hC1.no hS87
        have hd87 : PA RInt M a_t.Field (D 4) w90 ∧ PEq (.bool true) (D 3) w90 ∧ True := hd87
        obtain ⟨d212, d213, -⟩ := hd87
        obtain ⟨p18, e17, ha17⟩ := d212
        refine dg_sub (E' := [(7, (.pointer (some p18))), (6, (.bool true))]) ⟨(congrArg some e17), (congrArg some d213), trivial⟩ ?_
        refine dg_on rfl rfl rfl rfl (ow_load (R := RInt) rfl rfl ha17 (Tryd.sizeOf3 _) (Tryd.isAgg3 _) fun v26 hv26 => ?_)
        obtain rfl := vint_eq hv26
        exact ⟨BX.refl _ _, rfl⟩
      · intro w91 D hS88 hd88
        have hl91 := Le.no M hS88
        have hC91 := hC1.no hS88
        have hd88 : PEq (.int .i64 a_t.Field) (D 5) w91 ∧ PEq (.bool true) (D 3) w91 ∧ True := hd88
        obtain ⟨d214, d215, -⟩ := hd88
        refine dg_sub (E' := [(8, (.int .i64 a_t.Field)), (6, (.bool true))]) ⟨(congrArg some d214), (congrArg some d215), trivial⟩ ?_
        refine dg_on rfl rfl rfl rfl (ow_lss rfl rfl rfl fun bb18 hbb18 => ?_)
        obtain rfl := hbb18.trans hc2
        exact ⟨BX.refl _ _, rfl⟩
      · intro w92 D hS89 hd89
        have hl92 := Le.no M hS89
        have hC92 := hC1.no hS89
        have hd89 : PEq (.bool true) (D 3) w92 ∧ PEq (.bool false) (D 6) w92 ∧ True := hd89
        obtain ⟨d216, d217, -⟩ := hd89
        refine dg_sub (E' := [(6, (.bool true)), (9, (.bool false))]) ⟨(congrArg some d216), (congrArg some d217), trivial⟩ ?_
        refine dg_plain rfl (ow_pickT rfl rfl rfl ?_)
        exact ⟨BX.refl _ _, rfl⟩
      · intro w93 D hS90 hd90
        have hl93 := Le.no M hS90
        have hC93 := hC1.no hS90
        have hd90 : PEq (.bool false) (D 7) w93 ∧ PEq (.bool true) (D 3) w93 ∧ True := hd90
        obtain ⟨d218, d219, -⟩ := hd90
        refine dg_sub (E' := [(10, (.bool false))]) ⟨(congrArg some d218), trivial⟩ ?_
        refine dg_plain rfl (ow_move rfl rfl ?_)
        exact ⟨BX.refl _ _, rfl⟩
      · intro w94 D hS91 hd91
        have hl94 := Le.no M hS91
        have hC94 := hC1.no hS91
        have hd91 : PEq (.bool false) (D 8) w94 ∧ True := hd91
        obtain ⟨d220, -⟩ := hd91
        refine dg_sub (E' := [(11, (.bool false)), (1, (.pointer (some p1)))]) ⟨(congrArg some d220), rfl, trivial⟩ ?_
        exact dg_off rfl rfl rfl rfl ⟨BX.refl _ _, rfl⟩
      · intro w95 D hS92 hd92
        have hl95 := Le.no M hS92
        have hC95 := hC1.no hS92
        have hd92 : PEq undef (D 9) w95 ∧ PEq (.bool false) (D 8) w95 ∧ True := hd92
        obtain ⟨d221, d222, -⟩ := hd92
        refine dg_sub (E' := [(12, undef), (11, (.bool false))]) ⟨(congrArg some d221), (congrArg some d222), trivial⟩ ?_
        exact dg_off rfl rfl rfl rfl ⟨BX.refl _ _, rfl⟩
      · intro w96 D hS93 hd93
        have hl96 := Le.no M hS93
        have hC96 := hC1.no hS93
        have hd93 : PEq undef (D 10) w96 ∧ PEq (.bool false) (D 8) w96 ∧ True := hd93
        obtain ⟨d223, d224, -⟩ := hd93
        refine dg_sub (E' := [(13, undef), (11, (.bool false))]) ⟨(congrArg some d223), (congrArg some d224), trivial⟩ ?_
        exact dg_off rfl rfl rfl rfl ⟨BX.refl _ _, rfl⟩
      · intro w97 D hS94 hd94
        have hl97 := Le.no M hS94
        have hC97 := hC1.no hS94
        have hd94 : PEq (.bool false) (D 8) w97 ∧ PEq undef (D 11) w97 ∧ True := hd94
        obtain ⟨d225, d226, -⟩ := hd94
        refine dg_sub (E' := [(11, (.bool false)), (14, undef)]) ⟨(congrArg some d225), (congrArg some d226), trivial⟩ ?_
        refine dg_plain rfl (ow_pickF rfl rfl rfl ?_)
        exact ⟨BX.refl _ _, rfl⟩
      · intro w98 D hS95 hd95
        have hl98 := Le.no M hS95
        have hC98 := hC1.no hS95
        have hd95 : PEq (.bool false) (D 12) w98 ∧ PEq (.bool false) (D 8) w98 ∧ True := hd95
        obtain ⟨d227, d228, -⟩ := hd95
        refine dg_sub (E' := [(15, (.bool false))]) ⟨(congrArg some d227), trivial⟩ ?_
        refine dg_plain rfl (ow_move rfl rfl ?_)
        exact ⟨BX.refl _ _, rfl⟩
      · intro w99 D hS96 hd96
        have hl99 := Le.no M hS96
        have hC99 := hC1.no hS96
        have hd96 : PEq (.bool false) (D 13) w99 ∧ True := hd96
        obtain ⟨d229, -⟩ := hd96
        refine dg_sub (E' := [(16, (.bool false)), (1, (.pointer (some p1)))]) ⟨(congrArg some d229), rfl, trivial⟩ ?_
        exact dg_off rfl rfl rfl rfl ⟨BX.refl _ _, rfl⟩
      · intro w100 D hS97 hd97
        have hl100 := Le.no M hS97
        have hC100 := hC1.no hS97
        have hd97 : PEq undef (D 14) w100 ∧ PEq (.bool false) (D 13) w100 ∧ True := hd97
        obtain ⟨d230, d231, -⟩ := hd97
        refine dg_sub (E' := [(17, undef), (16, (.bool false))]) ⟨(congrArg some d230), (congrArg some d231), trivial⟩ ?_
        exact dg_off rfl rfl rfl rfl ⟨BX.refl _ _, rfl⟩
      · intro w101 D hS98 hd98
        have hl101 := Le.no M hS98
        have hC101 := hC1.no hS98
        have hd98 : PEq (.bool false) (D 13) w101 ∧ True := hd98
        obtain ⟨d232, -⟩ := hd98
        refine dg_sub (E' := [(16, (.bool false)), (1, (.pointer (some p1)))]) ⟨(congrArg some d232), rfl, trivial⟩ ?_
        exact dg_off rfl rfl rfl rfl ⟨BX.refl _ _, rfl⟩
      · intro w102 D hS99 hd99
        have hl102 := Le.no M hS99
        have hC102 := hC1.no hS99
        have hd99 : PEq undef (D 16) w102 ∧ PEq (.bool false) (D 13) w102 ∧ True := hd99
        obtain ⟨d233, d234, -⟩ := hd99
        refine dg_sub (E' := [(19, undef), (16, (.bool false))]) ⟨(congrArg some d233), (congrArg some d234), trivial⟩ ?_
        exact dg_off rfl rfl rfl rfl ⟨BX.refl _ _, rfl⟩
      · intro w103 D hS100 hd100
        have hl103 := Le.no M hS100
        have hC103 := hC1.no hS100
        have hd100 : PEq undef (D 15) w103 ∧ PEq undef (D 17) w103 ∧ PEq (.bool false) (D 13) w103 ∧ True := hd100
        obtain ⟨d235, d236, d237, -⟩ := hd100
        refine dg_sub (E' := [(18, undef), (20, undef), (16, (.bool false))]) ⟨(congrArg some d235), (congrArg some d236), (congrArg some d237), trivial⟩ ?_
        exact dg_off rfl rfl rfl rfl ⟨BX.refl _ _, rfl⟩
      · intro w104 D hS101 hd101
        have hl104 := Le.no M hS101
        have hC104 := hC1.no hS101
        have hd101 : PEq (.bool false) (D 13) w104 ∧ PEq undef (D 18) w104 ∧ True := hd101
        obtain ⟨d238, d239, -⟩ := hd101
        refine dg_sub (E' := [(16, (.bool false)), (21, undef)]) ⟨(congrArg some d238), (congrArg some d239), trivial⟩ ?_
        refine dg_plain rfl (ow_pickF rfl rfl rfl ?_)
        exact ⟨BX.refl _ _, rfl⟩
      · intro w105 D hS102 hd102
        have hl105 := Le.no M hS102
        have hC105 := hC1.no hS102
        have hd102 : PEq (.bool false) (D 19) w105 ∧ PEq (.bool false) (D 13) w105 ∧ True := hd102
        obtain ⟨d240, d241, -⟩ := hd102
        refine dg_sub (E' := [(22, (.bool false))]) ⟨(congrArg some d240), trivial⟩ ?_
        refine dg_plain rfl (ow_move rfl rfl ?_)
        exact ⟨BX.refl _ _, rfl⟩
      · intro w106 D hS103 hd103
        have hl106 := Le.no M hS103
        have hC106 := hC1.no hS103
        have hd103 : PEq (.bool false) (D 20) w106 ∧ True := hd103
        obtain ⟨d242, -⟩ := hd103
        refine dg_sub (E' := [(23, (.bool false)), (1, (.pointer (some p1)))]) ⟨(congrArg some d242), rfl, trivial⟩ ?_
        exact dg_off rfl rfl rfl rfl ⟨BX.refl _ _, rfl⟩
      · intro w107 D hS104 hd104
        have hl107 := Le.no M hS104
        have hC107 := hC1.no hS104
        have hd104 : PEq undef (D 21) w107 ∧ PEq (.bool false) (D 20) w107 ∧ True := hd104
        obtain ⟨d243, d244, -⟩ := hd104
        refine dg_sub (E' := [(24, undef), (23, (.bool false))]) ⟨(congrArg some d243), (congrArg some d244), trivial⟩ ?_
        exact dg_off rfl rfl rfl rfl ⟨BX.refl _ _, rfl⟩
      · intro w108 D hS105 hd105
        have hl108 := Le.no M hS105
        have hC108 := hC1.no hS105
        have hd105 : PEq (.bool false) (D 20) w108 ∧ True := hd105
        obtain ⟨d245, -⟩ := hd105
        refine dg_sub (E' := [(23, (.bool false)), (1, (.pointer (some p1)))]) ⟨(congrArg some d245), rfl, trivial⟩ ?_
        exact dg_off rfl rfl rfl rfl ⟨BX.refl _ _, rfl⟩
      · intro w109 D hS106 hd106
        have hl109 := Le.no M hS106
        have hC109 := hC1.no hS106
        have hd106 : PEq undef (D 23) w109 ∧ PEq (.bool false) (D 20) w109 ∧ True := hd106
        obtain ⟨d246, d247, -⟩ := hd106
        refine dg_sub (E' := [(26, undef), (23, (.bool false))]) ⟨(congrArg some d246), (congrArg some d247), trivial⟩ ?_
        exact dg_off rfl rfl rfl rfl ⟨BX.refl _ _, rfl⟩
      · intro w110 D hS107 hd107
        have hl110 := Le.no M hS107
        have hC110 := hC1.no hS107
        have hd107 : PEq undef (D 24) w110 ∧ PEq (.bool false) (D 20) w110 ∧ PEq (.bool false) (D 20) w110 ∧ True := hd107
        obtain ⟨d248, d249, d250, -⟩ := hd107
        refine dg_sub (E' := [(27, undef), (23, (.bool false))]) ⟨(congrArg some d248), (congrArg some d249), trivial⟩ ?_
        exact dg_off rfl rfl rfl rfl ⟨BX.refl _ _, rfl⟩
      · intro w111 D hS108 hd108
        have hl111 := Le.no M hS108
        have hC111 := hC1.no hS108
        have hd108 : PA RInt M a_t.Field (D 0) w111 ∧ PEq (.int .i64 a_t.Field) (D 1) w111 ∧ PEq (.bool true) (D 2) w111 ∧ PEq (.bool true) (D 3) w111 ∧ PA RInt M a_t.Field (D 4) w111 ∧ PEq (.int .i64 a_t.Field) (D 5) w111 ∧ PEq (.bool false) (D 6) w111 ∧ PEq (.bool false) (D 7) w111 ∧ PEq (.bool false) (D 8) w111 ∧ PEq undef (D 9) w111 ∧ PEq undef (D 10) w111 ∧ PEq undef (D 11) w111 ∧ PEq (.bool false) (D 12) w111 ∧ PEq (.bool false) (D 13) w111 ∧ PEq undef (D 14) w111 ∧ PEq undef (D 15) w111 ∧ PEq undef (D 16) w111 ∧ PEq undef (D 17) w111 ∧ PEq undef (D 18) w111 ∧ PEq (.bool false) (D 19) w111 ∧ PEq (.bool false) (D 20) w111 ∧ PEq undef (D 21) w111 ∧ PEq undef (D 22) w111 ∧ PEq undef (D 23) w111 ∧ PEq undef (D 24) w111 ∧ PEq undef (D 25) w111 ∧ True := hd108
        obtain ⟨-, -, -, -, -, -, -, -, -, -, -, -, -, -, -, -, -, -, -, -, d271, -, d273, -, -, d276, -⟩ := hd108
        refine lw_sub (E' := [(23, (.bool false)), (25, undef), (28, undef), (1, (.pointer (some p1))), (2, (.bool false))]) ⟨(congrArg some d271), (congrArg some d273), (congrArg some d276), rfl, rfl, trivial⟩ ?_
        refine lw_off rfl rfl rfl rfl rfl rfl ?_
        refine lw_op rfl rfl rfl (ow_pickF rfl rfl rfl ?_)
        refine lw_op rfl rfl rfl (ow_assign rfl rfl ?_)
        refine lw_nil ?_
        refine ew_then ?_
        refine cw_ret ?_
        obtain rfl := Option.some.inj h
        exact ew_ret (res1 rfl (.tmp rfl)) ⟨_, rfl, ((vbool _)), hC111.bx⟩
  · refine cw_sub (E' := [(1, (.pointer (some p1))), (2, (.bool false))]) ⟨rfl, rfl, trivial⟩ ?_
    refine cw_drawQ 26 [PA RInt M a_t.Field, PEq (.int .i64 a_t.Field), PEq (.bool false), PEq (.bool false), PEq undef, PEq undef, PEq undef, PEq (.bool false), PEq (.bool false), PEq undef, PEq undef, PEq undef, PEq (.bool false), PEq (.bool false), PEq undef, PEq undef, PEq undef, PEq undef, PEq undef, PEq (.bool false), PEq (.bool false), PEq undef, PEq undef, PEq undef, PEq undef, PEq undef] (by kernel_rfl) rfl (by kernel_rfl) ⟨PA.mono _ _ _, PEq.mono _, PEq.mono _, PEq.mono _, PEq.mono _, PEq.mono _, PEq.mono _, PEq.mono _, PEq.mono _, PEq.mono _, PEq.mono _, PEq.mono _, PEq.mono _, PEq.mono _, PEq.mono _, PEq.mono _, PEq.mono _, PEq.mono _, PEq.mono _, PEq.mono _, PEq.mono _, PEq.mono _, PEq.mono _, PEq.mono _, PEq.mono _, PEq.mono _, trivial⟩ ⟨?_, ?_, ?_, ?_, ?_, ?_, ?_, ?_, ?_, ?_, ?_, ?_, ?_, ?_, ?_, ?_, ?_, ?_, ?_, ?_, ?_, ?_, ?_, ?_, ?_, ?_, trivial⟩ ?_
    · intro w112 D hS109 hd109
      have hl112 := Le.no M hS109
      have hC112 := hC1.no hS109
      refine dg_sub (E' := [(1, (.pointer (some p1)))]) ⟨rfl, trivial⟩ ?_
      refine dg_plain rfl (ow_fieldAddr rfl rfl Tryd.underlying186 rfl (Tryd.sizeOf3 _) ?_)
      exact ⟨BX.refl _ _, ⟨_, rfl, (ARep.mono hl112 (hp1.fld fld_Test_Field))⟩⟩
    · intro w113 D hS110 hd110
      have hl113 := Le.no M hS110
      have hC113 := hC1.no hS110
      have hd110 : PA RInt M a_t.Field (D 0) w113 ∧ True := hd110
      obtain ⟨d277, -⟩ := hd110
      obtain ⟨p19, e18, ha18⟩ := d277
      refine dg_sub (E' := [(3, (.pointer (some p19)))]) ⟨(congrArg some e18), trivial⟩ ?_
      refine dg_plain rfl (ow_load (R := RInt) rfl rfl ha18 (Tryd.sizeOf3 _) (Tryd.isAgg3 _) fun v27 hv27 => ?_)
      obtain rfl := vint_eq hv27
      exact ⟨BX.refl _ _, rfl⟩
    · intro w114 D hS111 hd111
      have hl114 := Le.no M hS111
      have hC114 := hC1.no hS111
      have hd111 : PEq (.int .i64 a_t.Field) (D 1) w114 ∧ True := hd111
      obtain ⟨d278, -⟩ := hd111
      refine dg_sub (E' := [(4, (.int .i64 a_t.Field))]) ⟨(congrArg some d278), trivial⟩ ?_
      refine dg_plain rfl (ow_geq rfl rfl rfl fun bb19 hbb19 => ?_)
      obtain rfl := hbb19.trans hc1
      exact ⟨BX.refl _ _, rfl⟩
    · intro w115 D hS112 hd112
      have hl115 := Le.no M hS112
      have hC115 := hC1.no hS112
      have hd112 : PEq (.bool false) (D 2) w115 ∧ True := hd112
      obtain ⟨d279, -⟩ := hd112
      refine dg_sub (E' := [(5, (.bool false))]) ⟨(congrArg some d279), trivial⟩ ?_
      refine dg_plain rfl (ow_move rfl rfl ?_)
      exact ⟨BX.refl _ _, rfl⟩
    · intro w116 D hS113 hd113
      have hl116 := Le.no M hS113
      have hC116 := hC1.no hS113
      have hd113 : PEq (.bool false) (D 3) w116 ∧ True := hd113
      obtain ⟨d280, -⟩ := hd113
      refine dg_sub (E' := [(6, (.bool false)), (1, (.pointer (some p1)))]) ⟨(congrArg some d280), rfl, trivial⟩ ?_
      exact dg_off rfl rfl rfl rfl ⟨BX.refl _ _, rfl⟩
    · intro w117 D hS114 hd114
      have hl117 := Le.no M hS114
      have hC117 := hC1.no hS114
      have hd114 : PEq undef (D 4) w117 ∧ PEq (.bool false) (D 3) w117 ∧ True := hd114
      obtain ⟨d281, d282, -⟩ := hd114
      refine dg_sub (E' := [(7, undef), (6, (.bool false))]) ⟨(congrArg some d281), (congrArg some d282), trivial⟩ ?_
      exact dg_off rfl rfl rfl rfl ⟨BX.refl _ _, rfl⟩
    · intro w118 D hS115 hd115
      have hl118 := Le.no M hS115
      have hC118 := hC1.no hS115
      have hd115 : PEq undef (D 5) w118 ∧ PEq (.bool false) (D 3) w118 ∧ True := hd115
      obtain ⟨d283, d284, -⟩ := hd115
      refine dg_sub (E' := [(8, undef), (6, (.bool false))]) ⟨(congrArg some d283), (congrArg some d284), trivial⟩ ?_
      exact dg_off rfl rfl rfl rfl ⟨BX.refl _ _, rfl⟩
    · intro w119 D hS116 hd116
      have hl119 := Le.no M hS116
      have hC119 := hC1.no hS116
      have hd116 : PEq (.bool false) (D 3) w119 ∧ PEq undef (D 6) w119 ∧ True := hd116
      obtain ⟨d285, d286, -⟩ := hd116
      refine dg_sub (E' := [(6, (.bool false)), (9, undef)]) ⟨(congrArg some d285), (congrArg some d286), trivial⟩ ?_
      refine dg_plain rfl (ow_pickF rfl rfl rfl ?_)
      exact ⟨BX.refl _ _, rfl⟩
    · intro w120 D hS117 hd117
      have hl120 := Le.no M hS117
      have hC120 := hC1.no hS117
      have hd117 : PEq (.bool false) (D 7) w120 ∧ PEq (.bool false) (D 3) w120 ∧ True := hd117
      obtain ⟨d287, d288, -⟩ := hd117
      refine dg_sub (E' := [(10, (.bool false))]) ⟨(congrArg some d287), trivial⟩ ?_
      refine dg_plain rfl (ow_move rfl rfl ?_)
      exact ⟨BX.refl _ _, rfl⟩
    · intro w121 D hS118 hd118
      have hl121 := Le.no M hS118
      have hC121 := hC1.no hS118
      have hd118 : PEq (.bool false) (D 8) w121 ∧ True := hd118
      obtain ⟨d289, -⟩ := hd118
      refine dg_sub (E' := [(11, (.bool false)), (1, (.pointer (some p1)))]) ⟨(congrArg some d289), rfl, trivial⟩ ?_
      exact dg_off rfl rfl rfl rfl ⟨BX.refl _ _, rfl⟩
    · intro w122 D hS119 hd119
      have hl122 := Le.no M hS119
      have hC122 := hC1.no hS119
      have hd119 : PEq undef (D 9) w122 ∧ PEq (.bool false) (D 8) w122 ∧ True := hd119
      obtain ⟨d290, d291, -⟩ := hd119
      refine dg_sub (E' := [(12, undef), (11, (.bool false))]) ⟨(congrArg some d290), (congrArg some d291), trivial⟩ ?_
      exact dg_off rfl rfl rfl rfl ⟨BX.refl _ _, rfl⟩
    · intro w123 D hS120 hd120
      have hl123 := Le.no M hS120
      have hC123 := hC1.no hS120
      have hd120 : PEq undef (D 10) w123 ∧ PEq (.bool false) (D 8) w123 ∧ True := hd120
      obtain ⟨d292, d293, -⟩ := hd120
      refine dg_sub (E' := [(13, undef), (11, (.bool false))]) ⟨(congrArg some d292), (congrArg some d293), trivial⟩ ?_
      exact dg_off rfl rfl rfl rfl ⟨BX.refl _ _, rfl⟩
    · intro w124 D hS121 hd121
      have hl124 := Le.no M hS121
      have hC124 := hC1.no hS121
      have hd121 : PEq (.bool false) (D 8) w124 ∧ PEq undef (D 11) w124 ∧ True := hd121
      obtain ⟨d294, d295, -⟩ := hd121
      refine dg_sub (E' := [(11, (.bool false)), (14, undef)]) ⟨(congrArg some d294), (congrArg some d295), trivial⟩ ?_
      refine dg_plain rfl (ow_pickF rfl rfl rfl ?_)
      exact ⟨BX.refl _ _, rfl⟩
    · intro w125 D hS122 hd122
      have hl125 := Le.no M hS122
      have hC125 := hC1.no hS122
      have hd122 : PEq (.bool false) (D 12) w125 ∧ PEq (.bool false) (D 8) w125 ∧ True := hd122
      obtain ⟨d296, d297, -⟩ := hd122
      refine dg_sub (E' := [(15, (.bool false))]) ⟨(congrArg some d296), trivial⟩ ?_
      refine dg_plain rfl (ow_move rfl rfl ?_)
      exact ⟨BX.refl _ _, rfl⟩
    · intro w126 D hS123 hd123
      have hl126 := Le.no M hS123
      have hC126 := hC1.no hS123
      have hd123 : PEq (.bool false) (D 13) w126 ∧ True := hd123
      obtain ⟨d298, -⟩ := hd123
      refine dg_sub (E' := [(16, (.bool false)), (1, (.pointer (some p1)))]) ⟨(congrArg some d298), rfl, trivial⟩ ?_
      exact dg_off rfl rfl rfl rfl ⟨BX.refl _ _, rfl⟩
    · intro w127 D hS124 hd124
      have hl127 := Le.no M hS124
      have hC127 := hC1.no hS124
      have hd124 : PEq undef (D 14) w127 ∧ PEq (.bool false) (D 13) w127 ∧ True := hd124
      obtain ⟨d299, d300, -⟩ := hd124
      refine dg_sub (E' := [(17, undef), (16, (.bool false))]) ⟨(congrArg some d299), (congrArg some d300), trivial⟩ ?_
      exact dg_off rfl rfl rfl rfl ⟨BX.refl _ _, rfl⟩
    · intro w128 D hS125 hd125
      have hl128 := Le.no M hS125
      have hC128 := hC1.no hS125
      have hd125 : PEq (.bool false) (D 13) w128 ∧ True := hd125
      obtain ⟨d301, -⟩ := hd125
      refine dg_sub (E' := [(16, (.bool false)), (1, (.pointer (some p1)))]) ⟨(congrArg some d301), rfl, trivial⟩ ?_
      exact dg_off rfl rfl rfl rfl ⟨BX.refl _ _, rfl⟩
    · intro w129 D hS126 hd126
      have hl129 := Le.no M hS126
      have hC129 := hC1.no hS126
      have hd126 : PEq undef (D 16) w129 ∧ PEq (.bool false) (D 13) w129 ∧ True := hd126
      obtain ⟨d302, d303, -⟩ := hd126
      refine dg_sub (E' := [(19, undef), (16, (.bool false))]) ⟨(congrArg some d302), (congrArg some d303), trivial⟩ ?_
      exact dg_off rfl rfl rfl rfl ⟨BX.refl _ _, rfl⟩
    · intro w130 D hS127 hd127
      have hl130 := Le.no M hS127
      have hC130 := hC1.no hS127
      have hd127 : PEq undef (D 15) w130 ∧ PEq undef (D 17) w130 ∧ PEq (.bool false) (D 13) w130 ∧ True := hd127
      obtain ⟨d304, d305, d306, -⟩ := hd127
      refine dg_sub (E' := [(18, undef), (20, undef), (16, (.bool false))]) ⟨(congrArg some d304), (congrArg some d305), (congrArg some d306), trivial⟩ ?_
      exact dg_off rfl rfl rfl rfl ⟨BX.refl _ _, rfl⟩
    · intro w131 D hS128 hd128
      have hl131 := Le.no M hS128
      have hC131 := hC1.no hS128
      have hd128 : PEq (.bool false) (D 13) w131 ∧ PEq undef (D 18) w131 ∧ True := hd128
      obtain ⟨d307, d308, -⟩ := hd128
      refine dg_sub (E' := [(16, (.bool false)), (21, undef)]) ⟨(congrArg some d307), (congrArg some d308), trivial⟩ ?_
      refine dg_plain rfl (ow_pickF rfl rfl rfl ?_)
      exact ⟨BX.refl _ _, rfl⟩
    · intro w132 D hS129 hd129
      have hl132 := Le.no M hS129
      have hC132 := hC1.no hS129
      have hd129 : PEq (.bool false) (D 19) w132 ∧ PEq (.bool false) (D 13) w132 ∧ True := hd129
      obtain ⟨d309, d310, -⟩ := hd129
      refine dg_sub (E' := [(22, (.bool false))]) ⟨(congrArg some d309), trivial⟩ ?_
      refine dg_plain rfl (ow_move rfl rfl ?_)
      exact ⟨BX.refl _ _, rfl⟩
    · intro w133 D hS130 hd130
      have hl133 := Le.no M hS130
      have hC133 := hC1.no hS130
      have hd130 : PEq (.bool false) (D 20) w133 ∧ True := hd130
      obtain ⟨d311, -⟩ := hd130
      refine dg_sub (E' := [(23, (.bool false)), (1, (.pointer (some p1)))]) ⟨(congrArg some d311), rfl, trivial⟩ ?_
      exact dg_off rfl rfl rfl rfl ⟨BX.refl _ _, rfl⟩
    · intro w134 D hS131 hd131
      have hl134 := Le.no M hS131
      have hC134 := hC1.no hS131
      have hd131 : PEq undef (D 21) w134 ∧ PEq (.bool false) (D 20) w134 ∧ True := hd131
      obtain ⟨d312, d313, -⟩ := hd131
      refine dg_sub (E' := [(24, undef), (23, (.bool false))]) ⟨(congrArg some d312), (congrArg some d313), trivial⟩ ?_
      exact dg_off rfl rfl rfl rfl ⟨BX.refl _ _, rfl⟩
    · intro w135 D hS132 hd132
      have hl135 := Le.no M hS132
      have hC135 := hC1.no hS132
      have hd132 : PEq (.bool false) (D 20) w135 ∧ True := hd132
      obtain ⟨d314, -⟩ := hd132
      refine dg_sub (E' := [(23, (.bool false)), (1, (.pointer (some p1)))]) ⟨(congrArg some d314), rfl, trivial⟩ ?_
      exact dg_off rfl rfl rfl rfl ⟨BX.refl _ _, rfl⟩
    · intro w136 D hS133 hd133
      have hl136 := Le.no M hS133
      have hC136 := hC1.no hS133
      have hd133 : PEq undef (D 23) w136 ∧ PEq (.bool false) (D 20) w136 ∧ True := hd133
      obtain ⟨d315, d316, -⟩ := hd133
      refine dg_sub (E' := [(26, undef), (23, (.bool false))]) ⟨(congrArg some d315), (congrArg some d316), trivial⟩ ?_
      exact dg_off rfl rfl rfl rfl ⟨BX.refl _ _, rfl⟩
    · intro w137 D hS134 hd134
      have hl137 := Le.no M hS134
      have hC137 := hC1.no hS134
      have hd134 : PEq undef (D 24) w137 ∧ PEq (.bool false) (D 20) w137 ∧ PEq (.bool false) (D 20) w137 ∧ True := hd134
      obtain ⟨d317, d318, d319, -⟩ := hd134
      refine dg_sub (E' := [(27, undef), (23, (.bool false))]) ⟨(congrArg some d317), (congrArg some d318), trivial⟩ ?_
      exact dg_off rfl rfl rfl rfl ⟨BX.refl _ _, rfl⟩
    · intro w138 D hS135 hd135
      have hl138 := Le.no M hS135
      have hC138 := hC1.no hS135
      have hd135 : PA RInt M a_t.Field (D 0) w138 ∧ PEq (.int .i64 a_t.Field) (D 1) w138 ∧ PEq (.bool false) (D 2) w138 ∧ PEq (.bool false) (D 3) w138 ∧ PEq undef (D 4) w138 ∧ PEq undef (D 5) w138 ∧ PEq undef (D 6) w138 ∧ PEq (.bool false) (D 7) w138 ∧ PEq (.bool false) (D 8) w138 ∧ PEq undef (D 9) w138 ∧ PEq undef (D 10) w138 ∧ PEq undef (D 11) w138 ∧ PEq (.bool false) (D 12) w138 ∧ PEq (.bool false) (D 13) w138 ∧ PEq undef (D 14) w138 ∧ PEq undef (D 15) w138 ∧ PEq undef (D 16) w138 ∧ PEq undef (D 17) w138 ∧ PEq undef (D 18) w138 ∧ PEq (.bool false) (D 19) w138 ∧ PEq (.bool false) (D 20) w138 ∧ PEq undef (D 21) w138 ∧ PEq undef (D 22) w138 ∧ PEq undef (D 23) w138 ∧ PEq undef (D 24) w138 ∧ PEq undef (D 25) w138 ∧ True := hd135
      obtain ⟨-, -, -, -, -, -, -, -, -, -, -, -, -, -, -, -, -, -, -, -, d340, -, d342, -, -, d345, -⟩ := hd135
      refine lw_sub (E' := [(23, (.bool false)), (25, undef), (28, undef), (1, (.pointer (some p1))), (2, (.bool false))]) ⟨(congrArg some d340), (congrArg some d342), (congrArg some d345), rfl, rfl, trivial⟩ ?_
      refine lw_off rfl rfl rfl rfl rfl rfl ?_
      refine lw_op rfl rfl rfl (ow_pickF rfl rfl rfl ?_)
      refine lw_op rfl rfl rfl (ow_assign rfl rfl ?_)
      refine lw_nil ?_
      refine ew_then ?_
      refine cw_ret ?_
      obtain rfl := Option.some.inj h
      exact ew_ret (res1 rfl (.tmp rfl)) ⟨_, rfl, ((vbool _)), hC138.bx⟩

theorem w_impl_TestsValid {w : World} {M : Nat → Prop} (hG : ARep (RArr 4 RShape) w M shapes ⟨0, 0, none⟩) (hO : ∀ b, M b → b < w.heap.size) {v0p : Value} {a_list : List Test} (h0 : VRep (RSlice RTest) w M a_list v0p) {r : Bool} (h : F.impl_TestsValid a_list = some r) :
    Calls Tryd.prog 104 [v0p].toArray w fun e w' => ∃ v, e = .returned v ∧ VRep RBool w' M r v ∧ BX No w w' := by
  have hC : Cx No w M w M := Cx.start hO (fun _ e => e.elim)
  refine walk (N := 18) Tryd.func104 rfl Tryd.ntmps104 rfl ?_
  refine cw_seq ?_
  refine cw_region ?_
  refine lw_op rfl rfl rfl (ow_assign rfl rfl ?_)
  refine lw_nil ?_
  refine ew_then ?_
  refine cw_seq ?_
  refine cw_seq ?_
  refine cw_region ?_
  refine lw_op rfl rfl rfl (ow_move rfl rfl ?_)
  refine lw_op rfl rfl rfl (ow_len rfl rfl h0 Tryd.underlying74 rfl ?_)
  refine lw_op rfl rfl rfl (ow_gtr rfl rfl rfl fun bb1 hbb1 => ?_)
  refine lw_nil ?_
  refine ew_then ?_
  replace h := cond_some h
  rcases h with ⟨hc1, h⟩ | ⟨hc1, h⟩
  · obtain rfl := hbb1.trans hc1
    refine cw_true rfl ?_
    refine cw_seq ?_
    refine cw_region ?_
    refine lw_op rfl rfl rfl (ow_assign rfl rfl ?_)
    refine lw_nil ?_
    refine ew_then ?_
    refine cw_ret ?_
    refine ew_thenR ?_
    obtain rfl := Option.some.inj h
    exact ew_ret (res1 rfl (.tmp rfl)) ⟨_, rfl, ((vbool _)), hC.bx⟩
  · obtain rfl := hbb1.trans hc1
    refine cw_false rfl ?_
    refine cw_skip ?_
    refine ew_then ?_
    refine cw_seq ?_
    refine cw_seq ?_
    refine cw_region ?_
    refine lw_op rfl rfl rfl (ow_move rfl rfl ?_)
    refine lw_op rfl rfl rfl (ow_len rfl rfl h0 Tryd.underlying74 rfl ?_)
    refine lw_op rfl rfl rfl (ow_move rfl rfl ?_)
    refine lw_nil ?_
    refine ew_then ?_
    replace h := bind_some h
    obtain ⟨lr1, hlr1, h⟩ := h
    refine cw_for hlr1 (fun s a w' => ∃ (M' : Nat → Prop), Fits 18 [(8, v0p), (9, (.int .i64 (a_list.length : Int))), (10, (.int .i64 s))] a ∧ Le w M w' M' ∧ Cx No w M w' M') ?_ ?_ ?_
    · intro a ha
      exact ⟨M, ha.sub ⟨rfl, rfl, rfl, trivial⟩, Le.refl _ _, hC⟩
    · rintro k1 a w1 sr1 ⟨M1, hF1, hl1, hC1⟩ hb1 hR1
      refine cw_at (E := [(8, v0p), (9, (.int .i64 (a_list.length : Int))), (10, (.int .i64 k1))]) hF1 ?_
      refine cw_seq ?_
      refine cw_region ?_
      refine lw_op rfl rfl rfl (ow_lss rfl rfl rfl fun bb2 hbb2 => ?_)
      refine lw_nil ?_
      refine ew_then ?_
      refine cw_seq ?_
      replace hb1 := cond_some hb1
      rcases hb1 with ⟨hc2, hb1⟩ | ⟨hc2, hb1⟩
      · obtain rfl := hbb2.trans hc2
        refine cw_true rfl ?_
        refine cw_skip ?_
        refine ew_then ?_
        refine cw_seq ?_
        refine cw_block ?_
        refine cw_seq ?_
        refine cw_region ?_
        replace hb1 := bind_some hb1
        obtain ⟨x1, hx1, hb1⟩ := hb1
        refine lw_op rfl rfl rfl (ow_indexSlice (R := RTest) rfl rfl rfl (VRep.mono hl1 h0) Tryd.underlying74 (Tryd.sizeOf186 _) hx1 fun p1 hp1 => ?_)
        refine lw_op rfl rfl rfl (ow_load (R := RTest) rfl rfl hp1 (Tryd.sizeOf186 _) (Tryd.isAgg186 _) fun v2 hv2 => ?_)
        refine lw_allocStore (R := RTest) rfl rfl rfl rfl rfl rfl rfl Tryd.zeroValue186 Tryd.sizeOf186 rfl rfl rfl (by simp) hv2 hC1 fun p2 w2 hp2 hb2 hl2 hC2 => ?_
        refine lw_nil ?_
        refine ew_then ?_
        refine cw_seq ?_
        refine cw_region ?_
        refine lw_op rfl rfl rfl (ow_load (R := RTest) rfl rfl hp2 (Tryd.sizeOf186 _) (Tryd.isAgg186 _) fun v3 hv3 => ?_)
        replace hb1 := bind_some hb1
        obtain ⟨x2, hx2, hb1⟩ := hb1
        refine lw_op rfl rfl rfl (ow_call rfl rfl Tryd.call141 (w_impl_TestValid (hG.mono (hl1.trans hl2)) hC2.old hv3 hx2) fun v4 w3 hv4 => ?_)
        obtain ⟨hv4, hb3⟩ := hv4
        have hl3 := Le.no M1 hb3
        have hC3 := hC2.no hb3
        obtain rfl := vbool_eq hv4
        refine lw_op rfl rfl rfl (ow_not rfl rfl ?_)
        refine lw_nil ?_
        refine ew_then ?_
        replace hb1 := cond_some hb1
        rcases hb1 with ⟨hc3, hb1⟩ | ⟨hc3, hb1⟩
        · subst hc3
          refine cw_false rfl ?_
          refine cw_skip ?_
          refine ew_blockN ?_
          refine ew_then ?_
          refine cw_region ?_
          refine lw_op rfl rfl rfl (ow_add rfl rfl rfl ?_)
          refine lw_op rfl rfl rfl (ow_move rfl rfl ?_)
          refine lw_nil ?_
          refine ew_nxt (W (k1 + 1)) hb1 fun a ha => ⟨M1, ?_, ((hl1.trans hl2).trans hl3), hC3⟩
          exact ha.sub ⟨rfl, rfl, rfl, trivial⟩
        · subst hc3
          refine cw_true rfl ?_
          refine cw_seq ?_
          refine cw_region ?_
          refine lw_op rfl rfl rfl (ow_assign rfl rfl ?_)
          refine lw_nil ?_
          refine ew_then ?_
          refine cw_ret ?_
          refine ew_blockR ?_
          refine ew_thenR ?_
          refine ew_thenR ?_
          refine ew_blockR ?_
          refine ew_brkR ?_
          refine ew_thenR ?_
          have e1 := hR1 _ (Option.some.inj hb1).symm
          subst e1
          obtain rfl := Option.some.inj h
          exact ew_ret (res1 rfl (.tmp rfl)) ⟨_, rfl, ((vbool _)), hC3.bx⟩
      · obtain rfl := hbb2.trans hc2
        refine cw_false rfl ?_
        refine cw_exit ?_
        refine ew_thenX ?_
        refine ew_thenX ?_
        refine ew_blockX ?_
        refine ew_brk k1 hb1 fun a ha => ⟨M1, ?_, hl1, hC1⟩
        exact ha.sub ⟨rfl, rfl, rfl, trivial⟩
    · rintro k2 a w4 hlr2 ⟨M2, hF2, hl4, hC4⟩
      subst hlr2
      refine ew_at (E := [(8, v0p), (9, (.int .i64 (a_list.length : Int))), (10, (.int .i64 k2))]) hF2 ?_
      refine ew_then ?_
      refine cw_seq ?_
      refine cw_region ?_
      refine lw_op rfl rfl rfl (ow_assign rfl rfl ?_)
      refine lw_nil ?_
      refine ew_then ?_
      refine cw_ret ?_
      obtain rfl := Option.some.inj h
      exact ew_ret (res1 rfl (.tmp rfl)) ⟨_, rfl, ((vbool _)), hC4.bx⟩

theorem w_impl_RuleValid {w : World} {M : Nat → Prop} (hG : ARep (RArr 4 RShape) w M shapes ⟨0, 0, none⟩) (hO : ∀ b, M b → b < w.heap.size) {v0p : Value} {a_r : Rule} (h0 : VRep RRule w M a_r v0p) {r : Bool} (h : F.impl_RuleValid a_r = some r) :
    Calls Tryd.prog 99 [v0p].toArray w fun e w' => ∃ v, e = .returned v ∧ VRep RBool w' M r v ∧ BX No w w' := by
  have hC : Cx No w M w M := Cx.start hO (fun _ e => e.elim)
  refine walk (N := 27) Tryd.func99 rfl Tryd.ntmps99 rfl ?_
  refine cw_seq ?_
  refine cw_region ?_
  refine lw_op rfl rfl rfl (ow_box (R := RRule) rfl rfl h0 hC fun p1 w1 hp1 hb1 hl1 hC1 => ?_)
  refine lw_op rfl rfl rfl (ow_assign rfl rfl ?_)
  refine lw_nil ?_
  refine ew_then ?_
  refine cw_seq ?_
  refine cw_seq ?_
  refine cw_region ?_
  refine lw_op rfl rfl rfl (ow_fieldAddr rfl rfl Tryd.underlying76 rfl (Tryd.sizeOf74 _) ?_)
  refine lw_op rfl rfl rfl (ow_load (R := (RSlice RTest)) rfl rfl (hp1.fld fld_Rule_Tests) (Tryd.sizeOf74 _) (Tryd.isAgg74 _) fun v1 hv1 => ?_)
  replace h := bind_some h
  obtain ⟨x1, hx1, h⟩ := h
  refine lw_op rfl rfl rfl (ow_call rfl rfl Tryd.call104 (w_impl_TestsValid (hG.mono hl1) hC1.old hv1 hx1) fun v2 w2 hv2 => ?_)
  obtain ⟨hv2, hb2⟩ := hv2
  have hl2 := Le.no M hb2
  have hC2 := hC1.no hb2
  obtain rfl := vbool_eq hv2
  refine lw_op rfl rfl rfl (ow_not rfl rfl ?_)
  refine lw_nil ?_
  refine ew_then ?_
  replace h := cond_some h
  rcases h with ⟨hc1, h⟩ | ⟨hc1, h⟩
  · subst hc1
    refine cw_false rfl ?_
    refine cw_skip ?_
    refine ew_then ?_
    refine cw_seq ?_
    refine cw_seq ?_
    refine cw_region ?_
    refine lw_op rfl rfl rfl (ow_fieldAddr rfl rfl Tryd.underlying76 rfl (Tryd.sizeOf3 _) ?_)
    refine lw_op rfl rfl rfl (ow_load (R := RInt) rfl rfl (ARep.mono hl2 (hp1.fld fld_Rule_Action)) (Tryd.sizeOf3 _) (Tryd.isAgg3 _) fun v3 hv3 => ?_)
    obtain rfl := vint_eq hv3
    refine lw_nil ?_
    refine ew_then ?_
    refine cw_block ?_
    refine cw_seq ?_
    refine cw_region ?_
    refine lw_op rfl rfl rfl (ow_eqlI rfl rfl rfl fun bb1 hbb1 => ?_)
    refine lw_op rfl rfl rfl (ow_assign rfl rfl ?_)
    refine lw_nil ?_
    refine ew_then ?_
    replace h := cond_some h
    rcases h with ⟨hc2, h⟩ | ⟨hc2, h⟩
    · obtain rfl := hbb1.trans hc2
      refine cw_true rfl ?_
      refine cw_seq ?_
      refine cw_region ?_
      refine lw_op rfl rfl rfl (ow_fieldAddr rfl rfl Tryd.underlying76 rfl (Tryd.sizeOf3 _) ?_)
      refine lw_op rfl rfl rfl (ow_load (R := RInt) rfl rfl (ARep.mono hl2 (hp1.fld fld_Rule_Chain)) (Tryd.sizeOf3 _) (Tryd.isAgg3 _) fun v4 hv4 => ?_)
      obtain rfl := vint_eq hv4
      refine lw_op rfl rfl rfl (ow_geq rfl rfl rfl fun bb2 hbb2 => ?_)
      refine lw_op rfl rfl rfl (ow_move rfl rfl ?_)
      replace h := cond_some h
      rcases h with ⟨hc3, h⟩ | ⟨hc3, h⟩
      · obtain rfl := hbb2.trans hc3
        refine lw_on rfl rfl rfl rfl rfl rfl (ow_fieldAddr rfl rfl Tryd.underlying76 rfl (Tryd.sizeOf3 _) ?_)
        refine lw_on rfl rfl rfl rfl rfl rfl (ow_load (R := RInt) rfl rfl (ARep.mono hl2 (hp1.fld fld_Rule_Chain)) (Tryd.sizeOf3 _) (Tryd.isAgg3 _) fun v5 hv5 => ?_)
        obtain rfl := vint_eq hv5
        refine lw_on rfl rfl rfl rfl rfl rfl (ow_lss rfl rfl rfl fun bb3 hbb3 => ?_)
        refine lw_op rfl rfl rfl (ow_pickT rfl rfl rfl ?_)
        refine lw_op rfl rfl rfl (ow_assign rfl rfl ?_)
        refine lw_nil ?_
        refine ew_then ?_
        refine cw_ret ?_
        refine ew_blockR ?_
        refine ew_thenR ?_
        obtain rfl := Option.some.inj h
        exact ew_ret (res1 rfl (.tmp rfl)) ⟨_, rfl, ((vbool_of hbb3)), hC2.bx⟩
      · obtain rfl := hbb2.trans hc3
        refine lw_off rfl rfl rfl rfl rfl rfl ?_
        refine lw_off rfl rfl rfl rfl rfl rfl ?_
        refine lw_off rfl rfl rfl rfl rfl rfl ?_
        refine lw_op rfl rfl rfl (ow_pickF rfl rfl rfl ?_)
        refine lw_op rfl rfl rfl (ow_assign rfl rfl ?_)
        refine lw_nil ?_
        refine ew_then ?_
        refine cw_ret ?_
        refine ew_blockR ?_
        refine ew_thenR ?_
        obtain rfl := Option.some.inj h
        exact ew_ret (res1 rfl (.tmp rfl)) ⟨_, rfl, ((vbool _)), hC2.bx⟩
    · obtain rfl := hbb1.trans hc2
      refine cw_false rfl ?_
      refine cw_seq ?_
      refine cw_seq ?_
      refine cw_region ?_
      refine lw_op rfl rfl rfl (ow_eqlI rfl rfl rfl fun bb4 hbb4 => ?_)
      refine lw_op rfl rfl rfl (ow_assign rfl rfl ?_)
      refine lw_nil ?_
      refine ew_then ?_
      replace h := cond_some h
      rcases h with ⟨hc4, h⟩ | ⟨hc4, h⟩
      · obtain rfl := hbb4.trans hc4
        refine cw_true rfl ?_
        refine cw_skip ?_
        refine ew_then ?_
        refine cw_true rfl ?_
        refine cw_seq ?_
        refine cw_region ?_
        refine lw_op rfl rfl rfl (ow_fieldAddr rfl rfl Tryd.underlying76 rfl (Tryd.sizeOf3 _) ?_)
        refine lw_op rfl rfl rfl (ow_load (R := RInt) rfl rfl (ARep.mono hl2 (hp1.fld fld_Rule_Chain)) (Tryd.sizeOf3 _) (Tryd.isAgg3 _) fun v6 hv6 => ?_)
        obtain rfl := vint_eq hv6
        refine lw_op rfl rfl rfl (ow_eqlI rfl rfl rfl fun bb5 hbb5 => ?_)
        refine lw_op rfl rfl rfl (ow_assign rfl rfl ?_)
        refine lw_nil ?_
        refine ew_then ?_
        refine cw_ret ?_
        refine ew_blockR ?_
        refine ew_thenR ?_
        obtain rfl := Option.some.inj h
        exact ew_ret (res1 rfl (.tmp rfl)) ⟨_, rfl, ((vbool_of hbb5)), hC2.bx⟩
      · obtain rfl := hbb4.trans hc4
        refine cw_false rfl ?_
        refine cw_seq ?_
        refine cw_region ?_
        refine lw_op rfl rfl rfl (ow_eqlI rfl rfl rfl fun bb6 hbb6 => ?_)
        refine lw_op rfl rfl rfl (ow_assign rfl rfl ?_)
        refine lw_nil ?_
        refine ew_then ?_
        replace h := cond_some h
        rcases h with ⟨hc5, h⟩ | ⟨hc5, h⟩
        · obtain rfl := hbb6.trans hc5
          refine cw_true rfl ?_
          refine cw_skip ?_
          refine ew_then ?_
          refine cw_true rfl ?_
          refine cw_seq ?_
          refine cw_region ?_
          refine lw_op rfl rfl rfl (ow_fieldAddr rfl rfl Tryd.underlying76 rfl (Tryd.sizeOf3 _) ?_)
          refine lw_op rfl rfl rfl (ow_load (R := RInt) rfl rfl (ARep.mono hl2 (hp1.fld fld_Rule_Chain)) (Tryd.sizeOf3 _) (Tryd.isAgg3 _) fun v7 hv7 => ?_)
          obtain rfl := vint_eq hv7
          refine lw_op rfl rfl rfl (ow_eqlI rfl rfl rfl fun bb7 hbb7 => ?_)
          refine lw_op rfl rfl rfl (ow_assign rfl rfl ?_)
          refine lw_nil ?_
          refine ew_then ?_
          refine cw_ret ?_
          refine ew_blockR ?_
          refine ew_thenR ?_
          obtain rfl := Option.some.inj h
          exact ew_ret (res1 rfl (.tmp rfl)) ⟨_, rfl, ((vbool_of hbb7)), hC2.bx⟩
        · obtain rfl := hbb6.trans hc5
          refine cw_false rfl ?_
          refine cw_seq ?_
          refine cw_region ?_
          refine lw_op rfl rfl rfl (ow_eqlI rfl rfl rfl fun bb8 hbb8 => ?_)
          refine lw_op rfl rfl rfl (ow_assign rfl rfl ?_)
          refine lw_nil ?_
          refine ew_then ?_
          replace h := cond_some h
          rcases h with ⟨hc6, h⟩ | ⟨hc6, h⟩
          · obtain rfl := hbb8.trans hc6
            refine cw_true rfl ?_
            refine cw_skip ?_
            refine ew_then ?_
            refine cw_true rfl ?_
            refine cw_seq ?_
            refine cw_region ?_
            refine lw_op rfl rfl rfl (ow_fieldAddr rfl rfl Tryd.underlying76 rfl (Tryd.sizeOf3 _) ?_)
            refine lw_op rfl rfl rfl (ow_load (R := RInt) rfl rfl (ARep.mono hl2 (hp1.fld fld_Rule_Chain)) (Tryd.sizeOf3 _) (Tryd.isAgg3 _) fun v8 hv8 => ?_)
            obtain rfl := vint_eq hv8
            refine lw_op rfl rfl rfl (ow_eqlI rfl rfl rfl fun bb9 hbb9 => ?_)
            refine lw_op rfl rfl rfl (ow_assign rfl rfl ?_)
            refine lw_nil ?_
            refine ew_then ?_
            refine cw_ret ?_
            refine ew_blockR ?_
            refine ew_thenR ?_
            obtain rfl := Option.some.inj h
            exact ew_ret (res1 rfl (.tmp rfl)) ⟨_, rfl, ((vbool_of hbb9)), hC2.bx⟩
          · obtain rfl := hbb8.trans hc6
            refine cw_false rfl ?_
            refine cw_region ?_
            refine lw_op rfl rfl rfl (ow_eqlI rfl rfl rfl fun bb10 hbb10 => ?_)
            refine lw_op rfl rfl rfl (ow_assign rfl rfl ?_)
            refine lw_nil ?_
            refine ew_then ?_
            replace h := cond_some h
            rcases h with ⟨hc7, h⟩ | ⟨hc7, h⟩
            · obtain rfl := hbb10.trans hc7
              refine cw_true rfl ?_
              refine cw_seq ?_
              refine cw_region ?_
              refine lw_op rfl rfl rfl (ow_fieldAddr rfl rfl Tryd.underlying76 rfl (Tryd.sizeOf3 _) ?_)
              refine lw_op rfl rfl rfl (ow_load (R := RInt) rfl rfl (ARep.mono hl2 (hp1.fld fld_Rule_Chain)) (Tryd.sizeOf3 _) (Tryd.isAgg3 _) fun v9 hv9 => ?_)
              obtain rfl := vint_eq hv9
              refine lw_op rfl rfl rfl (ow_eqlI rfl rfl rfl fun bb11 hbb11 => ?_)
              refine lw_op rfl rfl rfl (ow_assign rfl rfl ?_)
              refine lw_nil ?_
              refine ew_then ?_
              refine cw_ret ?_
              refine ew_blockR ?_
              refine ew_thenR ?_
              obtain rfl := Option.some.inj h
              exact ew_ret (res1 rfl (.tmp rfl)) ⟨_, rfl, ((vbool_of hbb11)), hC2.bx⟩
            · obtain rfl := hbb10.trans hc7
              refine cw_false rfl ?_
              refine cw_skip ?_
              refine ew_blockN ?_
              refine ew_then ?_
              refine cw_seq ?_
              refine cw_region ?_
              refine lw_op rfl rfl rfl (ow_assign rfl rfl ?_)
              refine lw_nil ?_
              refine ew_then ?_
              refine cw_ret ?_
              obtain rfl := Option.some.inj h
              exact ew_ret (res1 rfl (.tmp rfl)) ⟨_, rfl, ((vbool _)), hC2.bx⟩
  · subst hc1
    refine cw_true rfl ?_
    refine cw_seq ?_
    refine cw_region ?_
    refine lw_op rfl rfl rfl (ow_assign rfl rfl ?_)
    refine lw_nil ?_
    refine ew_then ?_
    refine cw_ret ?_
    refine ew_thenR ?_
    obtain rfl := Option.some.inj h
    exact ew_ret (res1 rfl (.tmp rfl)) ⟨_, rfl, ((vbool _)), hC2.bx⟩

theorem w_impl_RulesValid {w : World} {M : Nat → Prop} (hG : ARep (RArr 4 RShape) w M shapes ⟨0, 0, none⟩) (hO : ∀ b, M b → b < w.heap.size) {v0p : Value} {a_list : List Rule} (h0 : VRep (RSlice RRule) w M a_list v0p) {r : Bool} (h : F.impl_RulesValid a_list = some r) :
    Calls Tryd.prog 86 [v0p].toArray w fun e w' => ∃ v, e = .returned v ∧ VRep RBool w' M r v ∧ BX No w w' := by
  have hC : Cx No w M w M := Cx.start hO (fun _ e => e.elim)
  refine walk (N := 18) Tryd.func86 rfl Tryd.ntmps86 rfl ?_
  refine cw_seq ?_
  refine cw_region ?_
  refine lw_op rfl rfl rfl (ow_assign rfl rfl ?_)
  refine lw_nil ?_
  refine ew_then ?_
  refine cw_seq ?_
  refine cw_seq ?_
  refine cw_region ?_
  refine lw_op rfl rfl rfl (ow_move rfl rfl ?_)
  refine lw_op rfl rfl rfl (ow_len rfl rfl h0 Tryd.underlying86 rfl ?_)
  refine lw_op rfl rfl rfl (ow_gtr rfl rfl rfl fun bb1 hbb1 => ?_)
  refine lw_nil ?_
  refine ew_then ?_
  replace h := cond_some h
  rcases h with ⟨hc1, h⟩ | ⟨hc1, h⟩
  · obtain rfl := hbb1.trans hc1
    refine cw_true rfl ?_
    refine cw_seq ?_
    refine cw_region ?_
    refine lw_op rfl rfl rfl (ow_assign rfl rfl ?_)
    refine lw_nil ?_
    refine ew_then ?_
    refine cw_ret ?_
    refine ew_thenR ?_
    obtain rfl := Option.some.inj h
    exact ew_ret (res1 rfl (.tmp rfl)) ⟨_, rfl, ((vbool _)), hC.bx⟩
  · obtain rfl := hbb1.trans hc1
    refine cw_false rfl ?_
    refine cw_skip ?_
    refine ew_then ?_
    refine cw_seq ?_
    refine cw_seq ?_
    refine cw_region ?_
    refine lw_op rfl rfl rfl (ow_move rfl rfl ?_)
    refine lw_op rfl rfl rfl (ow_len rfl rfl h0 Tryd.underlying86 rfl ?_)
    refine lw_op rfl rfl rfl (ow_move rfl rfl ?_)
    refine lw_nil ?_
    refine ew_then ?_
    replace h := bind_some h
    obtain ⟨lr1, hlr1, h⟩ := h
    refine cw_for hlr1 (fun s a w' => ∃ (M' : Nat → Prop), Fits 18 [(8, v0p), (9, (.int .i64 (a_list.length : Int))), (10, (.int .i64 s))] a ∧ Le w M w' M' ∧ Cx No w M w' M') ?_ ?_ ?_
    · intro a ha
      exact ⟨M, ha.sub ⟨rfl, rfl, rfl, trivial⟩, Le.refl _ _, hC⟩
    · rintro k1 a w1 sr1 ⟨M1, hF1, hl1, hC1⟩ hb1 hR1
      refine cw_at (E := [(8, v0p), (9, (.int .i64 (a_list.length : Int))), (10, (.int .i64 k1))]) hF1 ?_
      refine cw_seq ?_
      refine cw_region ?_
      refine lw_op rfl rfl rfl (ow_lss rfl rfl rfl fun bb2 hbb2 => ?_)
      refine lw_nil ?_
      refine ew_then ?_
      refine cw_seq ?_
      replace hb1 := cond_some hb1
      rcases hb1 with ⟨hc2, hb1⟩ | ⟨hc2, hb1⟩
      · obtain rfl := hbb2.trans hc2
        refine cw_true rfl ?_
        refine cw_skip ?_
        refine ew_then ?_
        refine cw_seq ?_
        refine cw_block ?_
        refine cw_seq ?_
        refine cw_region ?_
        replace hb1 := bind_some hb1
        obtain ⟨x1, hx1, hb1⟩ := hb1
        refine lw_op rfl rfl rfl (ow_indexSlice (R := RRule) rfl rfl rfl (VRep.mono hl1 h0) Tryd.underlying86 (Tryd.sizeOf76 _) hx1 fun p1 hp1 => ?_)
        refine lw_op rfl rfl rfl (ow_load (R := RRule) rfl rfl hp1 (Tryd.sizeOf76 _) (Tryd.isAgg76 _) fun v2 hv2 => ?_)
        refine lw_allocStore (R := RRule) rfl rfl rfl rfl rfl rfl rfl Tryd.zeroValue76 Tryd.sizeOf76 rfl rfl rfl (by simp) hv2 hC1 fun p2 w2 hp2 hb2 hl2 hC2 => ?_
        refine lw_nil ?_
        refine ew_then ?_
        refine cw_seq ?_
        refine cw_region ?_
        refine lw_op rfl rfl rfl (ow_load (R := RRule) rfl rfl hp2 (Tryd.sizeOf76 _) (Tryd.isAgg76 _) fun v3 hv3 => ?_)
        replace hb1 := bind_some hb1
        obtain ⟨x2, hx2, hb1⟩ := hb1
        refine lw_op rfl rfl rfl (ow_call rfl rfl Tryd.call99 (w_impl_RuleValid (hG.mono (hl1.trans hl2)) hC2.old hv3 hx2) fun v4 w3 hv4 => ?_)
        obtain ⟨hv4, hb3⟩ := hv4
        have hl3 := Le.no M1 hb3
        have hC3 := hC2.no hb3
        obtain rfl := vbool_eq hv4
        refine lw_op rfl rfl rfl (ow_not rfl rfl ?_)
        refine lw_nil ?_
        refine ew_then ?_
        replace hb1 := cond_some hb1
        rcases hb1 with ⟨hc3, hb1⟩ | ⟨hc3, hb1⟩
        · subst hc3
          refine cw_false rfl ?_
          refine cw_skip ?_
          refine ew_blockN ?_
          refine ew_then ?_
          refine cw_region ?_
          refine lw_op rfl rfl rfl (ow_add rfl rfl rfl ?_)
          refine lw_op rfl rfl rfl (ow_move rfl rfl ?_)
          refine lw_nil ?_
          refine ew_nxt (W (k1 + 1)) hb1 fun a ha => ⟨M1, ?_, ((hl1.trans hl2).trans hl3), hC3⟩
          exact ha.sub ⟨rfl, rfl, rfl, trivial⟩
        · subst hc3
          refine cw_true rfl ?_
          refine cw_seq ?_
          refine cw_region ?_
          refine lw_op rfl rfl rfl (ow_assign rfl rfl ?_)
          refine lw_nil ?_
          refine ew_then ?_
          refine cw_ret ?_
          refine ew_blockR ?_
          refine ew_thenR ?_
          refine ew_thenR ?_
          refine ew_blockR ?_
          refine ew_brkR ?_
          refine ew_thenR ?_
          have e1 := hR1 _ (Option.some.inj hb1).symm
          subst e1
          obtain rfl := Option.some.inj h
          exact ew_ret (res1 rfl (.tmp rfl)) ⟨_, rfl, ((vbool _)), hC3.bx⟩
      · obtain rfl := hbb2.trans hc2
        refine cw_false rfl ?_
        refine cw_exit ?_
        refine ew_thenX ?_
        refine ew_thenX ?_
        refine ew_blockX ?_
        refine ew_brk k1 hb1 fun a ha => ⟨M1, ?_, hl1, hC1⟩
        exact ha.sub ⟨rfl, rfl, rfl, trivial⟩
    · rintro k2 a w4 hlr2 ⟨M2, hF2, hl4, hC4⟩
      subst hlr2
      refine ew_at (E := [(8, v0p), (9, (.int .i64 (a_list.length : Int))), (10, (.int .i64 k2))]) hF2 ?_
      refine ew_then ?_
      refine cw_seq ?_
      refine cw_region ?_
      refine lw_op rfl rfl rfl (ow_assign rfl rfl ?_)
      refine lw_nil ?_
      refine ew_then ?_
      refine cw_ret ?_
      obtain rfl := Option.some.inj h
      exact ew_ret (res1 rfl (.tmp rfl)) ⟨_, rfl, ((vbool _)), hC4.bx⟩

theorem w_impl_callsIn {w : World} {M : Nat → Prop} (_hG : ARep (RArr 4 RShape) w M shapes ⟨0, 0, none⟩) (hO : ∀ b, M b → b < w.heap.size) {v0p : Value} {a_rules : List Rule} (h0 : VRep (RSlice RRule) w M a_rules v0p) {r : (List Int)} (h : F.impl_callsIn a_rules = some r) :
    Calls Tryd.prog 87 [v0p].toArray w fun e w' => ∃ v, e = .returned v ∧ VRep (RSlice RInt) w' M r v ∧ BX No w w' := by
  obtain ⟨i3, hi3, hz3, hs3, hy3⟩ := info3
  have hC : Cx No w M w M := Cx.start hO (fun _ e => e.elim)
  clear _hG
  refine walk (N := 34) Tryd.func87 rfl Tryd.ntmps87 rfl ?_
  refine cw_seq ?_
  refine cw_region ?_
  refine lw_op rfl rfl rfl (ow_assign rfl rfl ?_)
  refine lw_nil ?_
  refine ew_then ?_
  refine cw_seq ?_
  refine cw_region ?_
  refine lw_op rfl rfl rfl (ow_alloc rfl (Tryd.zeroValue165 _) hC fun g1 w1 hg1 hg2 ho1 hb1 hl1 hC1 => ?_)
  have hm1 : (Add g1 M) g1 := .inl rfl
  have ho2 : OwnA (RArr 5 RBool) w1 (Add g1 M) g1 165 [false, false, false, false, false] := OwnA.of ho1 ⟨rfl, ⟨_, _, rfl, (vbool _).cells, _, _, rfl, (vbool _).cells, _, _, rfl, (vbool _).cells, _, _, rfl, (vbool _).cells, _, _, rfl, (vbool _).cells, rfl⟩⟩
  refine lw_nil ?_
  refine ew_then ?_
  refine cw_seq ?_
  refine cw_seq ?_
  refine cw_region ?_
  refine lw_op rfl rfl rfl (ow_move rfl rfl ?_)
  refine lw_op rfl rfl rfl (ow_len rfl rfl (VRep.mono hl1 h0) Tryd.underlying86 rfl ?_)
  refine lw_op rfl rfl rfl (ow_move rfl rfl ?_)
  refine lw_nil ?_
  refine ew_then ?_
  replace h := bind_some h
  obtain ⟨lr1, hlr1, h⟩ := h
  refine cw_for hlr1 (fun s a w' => ∃ (M' : Nat → Prop), Fits 34 [(3, (.pointer (some ⟨g1, 0, none⟩))), (9, v0p), (10, (.int .i64 (a_rules.length : Int))), (11, (.int .i64 s.1))] a ∧ Le w1 (Add g1 M) w' M' ∧ Cx No w M w' M' ∧ OwnA (RArr 5 RBool) w' M' g1 165 s.2 ∧ M' g1) ?_ ?_ ?_
  · intro a ha
    exact ⟨(Add g1 M), ha.sub ⟨rfl, rfl, rfl, rfl, trivial⟩, Le.refl _ _, hC1, ho2, hm1⟩
  · rintro ⟨k1, y1⟩ a w2 sr1 ⟨M1, hF1, hl2, hC2, ho3, hm2⟩ hb2 hR1
    refine cw_at (E := [(3, (.pointer (some ⟨g1, 0, none⟩))), (9, v0p), (10, (.int .i64 (a_rules.length : Int))), (11, (.int .i64 k1))]) hF1 ?_
    refine cw_seq ?_
    refine cw_region ?_
    refine lw_op rfl rfl rfl (ow_lss rfl rfl rfl fun bb1 hbb1 => ?_)
    refine lw_nil ?_
    refine ew_then ?_
    refine cw_seq ?_
    replace hb2 := cond_some hb2
    rcases hb2 with ⟨hc1, hb2⟩ | ⟨hc1, hb2⟩
    · obtain rfl := hbb1.trans hc1
      refine cw_true rfl ?_
      refine cw_skip ?_
      refine ew_then ?_
      refine cw_seq ?_
      refine cw_block ?_
      refine cw_seq ?_
      refine cw_region ?_
      replace hb2 := bind_some hb2
      obtain ⟨x1, hx1, hb2⟩ := hb2
      refine lw_op rfl rfl rfl (ow_indexSlice (R := RRule) rfl rfl rfl (VRep.mono (hl1.trans hl2) h0) Tryd.underlying86 (Tryd.sizeOf76 _) hx1 fun p1 hp1 => ?_)
      refine lw_op rfl rfl rfl (ow_load (R := RRule) rfl rfl hp1 (Tryd.sizeOf76 _) (Tryd.isAgg76 _) fun v3 hv3 => ?_)
      refine lw_allocStore (R := RRule) rfl rfl rfl rfl rfl rfl rfl Tryd.zeroValue76 Tryd.sizeOf76 rfl rfl rfl (by simp) hv3 hC2 fun p2 w3 hp2 hb3 hl3 hC3 => ?_
      have ho4 := ho3.no hb3 hl3
      refine lw_nil ?_
      refine ew_then ?_
      refine cw_seq ?_
      refine cw_region ?_
      refine lw_op rfl rfl rfl (ow_fieldAddr rfl rfl Tryd.underlying76 rfl (Tryd.sizeOf3 _) ?_)
      refine lw_op rfl rfl rfl (ow_load (R := RInt) rfl rfl (hp2.fld fld_Rule_Action) (Tryd.sizeOf3 _) (Tryd.isAgg3 _) fun v4 hv4 => ?_)
      obtain rfl := vint_eq hv4
      refine lw_op rfl rfl rfl (ow_eqlI rfl rfl rfl fun bb2 hbb2 => ?_)
      refine lw_nil ?_
      refine ew_then ?_
      replace hb2 := cond_some hb2
      rcases hb2 with ⟨hc2, hb2⟩ | ⟨hc2, hb2⟩
      · obtain rfl := hbb2.trans hc2
        refine cw_true rfl ?_
        refine cw_region ?_
        refine lw_op rfl rfl rfl (ow_fieldAddr rfl rfl Tryd.underlying76 rfl (Tryd.sizeOf3 _) ?_)
        refine lw_op rfl rfl rfl (ow_load (R := RInt) rfl rfl (hp2.fld fld_Rule_Chain) (Tryd.sizeOf3 _) (Tryd.isAgg3 _) fun v5 hv5 => ?_)
        obtain rfl := vint_eq hv5
        replace hb2 := bind_some hb2
        obtain ⟨x2, hx2, hb2⟩ := hb2
        refine lw_op rfl rfl rfl (ow_indexA (R := RBool) rfl rfl rfl rfl ho4 Tryd.underlying165 (Tryd.sizeOf4 _) hx2 ?_)
        refine lw_op0 rfl rfl (ow_storeElA (X := No) (R := RBool) rfl rfl rfl rfl ho4 hx2 (Tryd.sizeOf4 _) (vbool _) hm2 (.inl hg2) hC3 fun w4 ho5 hb4 hl4 hC4 => ?_)
        refine lw_nil ?_
        refine ew_blockN ?_
        refine ew_then ?_
        refine cw_region ?_
        refine lw_op rfl rfl rfl (ow_add rfl rfl rfl ?_)
        refine lw_op rfl rfl rfl (ow_move rfl rfl ?_)
        refine lw_nil ?_
        refine ew_nxt ((W (k1 + 1)), (List.set y1 (x1.Chain : Int).toNat true)) hb2 fun a ha => ⟨M1, ?_, ((hl2.trans hl3).trans hl4), hC4, ho5, hm2⟩
        exact ha.sub ⟨rfl, rfl, rfl, rfl, trivial⟩
      · obtain rfl := hbb2.trans hc2
        refine cw_false rfl ?_
        refine cw_skip ?_
        refine ew_blockN ?_
        refine ew_then ?_
        refine cw_region ?_
        refine lw_op rfl rfl rfl (ow_add rfl rfl rfl ?_)
        refine lw_op rfl rfl rfl (ow_move rfl rfl ?_)
        refine lw_nil ?_
        refine ew_nxt ((W (k1 + 1)), y1) hb2 fun a ha => ⟨M1, ?_, (hl2.trans hl3), hC3, ho4, hm2⟩
        exact ha.sub ⟨rfl, rfl, rfl, rfl, trivial⟩
    · obtain rfl := hbb1.trans hc1
      refine cw_false rfl ?_
      refine cw_exit ?_
      refine ew_thenX ?_
      refine ew_thenX ?_
      refine ew_blockX ?_
      refine ew_brk (k1, y1) hb2 fun a ha => ⟨M1, ?_, hl2, hC2, ho3, hm2⟩
      exact ha.sub ⟨rfl, rfl, rfl, rfl, trivial⟩
  · rintro ⟨k2, y2⟩ a w5 hlr2 ⟨M2, hF2, hl5, hC5, ho6, hm3⟩
    subst hlr2
    refine ew_at (E := [(3, (.pointer (some ⟨g1, 0, none⟩))), (9, v0p), (10, (.int .i64 (a_rules.length : Int))), (11, (.int .i64 k2))]) hF2 ?_
    refine ew_then ?_
    refine cw_seq ?_
    refine cw_region ?_
    refine lw_op rfl rfl rfl (ow_assign rfl rfl ?_)
    refine lw_nil ?_
    refine ew_then ?_
    refine cw_seq ?_
    refine cw_seq ?_
    refine cw_region ?_
    refine lw_op rfl rfl rfl (ow_loadA (R := (RArr 5 RBool)) rfl rfl rfl ho6 (Tryd.sizeOf165 _) (Tryd.isAgg165 _) fun v8 hv8 => ?_)
    refine lw_op rfl rfl rfl (ow_move rfl rfl ?_)
    refine lw_nil ?_
    refine ew_then ?_
    have hr1 : OwnRow RInt w.heap.size 3 w5 M2 ([] : List Int) (.slice none 0 0) := ownrow_nil
    replace h := bind_some h
    obtain ⟨lr2, hlr3, h⟩ := h
    refine cw_for hlr3 (fun s a w' => ∃ (M' : Nat → Prop) (v0c : Value), Fits 34 [(6, v0c), (22, v8), (23, (.int .i64 s.2))] a ∧ Le w5 M2 w' M' ∧ Cx No w M w' M' ∧ OwnRow RInt w.heap.size 3 w' M' s.1 v0c) ?_ ?_ ?_
    · intro a ha
      exact ⟨M2, (.slice none 0 0), ha.sub ⟨rfl, rfl, rfl, trivial⟩, Le.refl _ _, hC5, hr1⟩
    · rintro ⟨y3, k3⟩ a w6 sr2 ⟨M3, v9, hF3, hl6, hC6, hw1⟩ hb5 hR2
      refine cw_at (E := [(6, v9), (22, v8), (23, (.int .i64 k3))]) hF3 ?_
      refine cw_seq ?_
      refine cw_region ?_
      refine lw_op rfl rfl rfl (ow_lss rfl rfl rfl fun bb3 hbb3 => ?_)
      refine lw_nil ?_
      refine ew_then ?_
      refine cw_seq ?_
      replace hb5 := cond_some hb5
      rcases hb5 with ⟨hc3, hb5⟩ | ⟨hc3, hb5⟩
      · obtain rfl := hbb3.trans hc3
        refine cw_true rfl ?_
        refine cw_skip ?_
        refine ew_then ?_
        refine cw_seq ?_
        refine cw_block ?_
        refine cw_seq ?_
        refine cw_region ?_
        refine lw_op rfl rfl rfl (ow_move rfl rfl ?_)
        replace hb5 := bind_some hb5
        obtain ⟨x3, hx3, hb5⟩ := hb5
        refine lw_op rfl rfl rfl (ow_index (R := RBool) rfl rfl rfl (VRep.mono hl6 hv8) Tryd.underlying165 (Tryd.sizeOf4 _) (Tryd.isAgg4 _) hx3 fun v11 hv11 => ?_)
        obtain rfl := vbool_eq hv11
        refine lw_op rfl rfl rfl (ow_assign rfl rfl ?_)
        refine lw_op rfl rfl rfl (ow_assign rfl rfl ?_)
        refine lw_nil ?_
        refine ew_then ?_
        refine cw_seq ?_
        refine cw_region ?_
        refine lw_op rfl rfl rfl (ow_move rfl rfl ?_)
        refine lw_nil ?_
        refine ew_then ?_
        replace hb5 := cond_some hb5
        rcases hb5 with ⟨hc4, hb5⟩ | ⟨hc4, hb5⟩
        · subst hc4
          refine cw_true rfl ?_
          refine cw_region ?_
          refine lw_op rfl rfl rfl (ow_move rfl rfl ?_)
          refine lw_op rfl rfl rfl (ow_move rfl rfl ?_)
          refine lw_op rfl rfl rfl (ow_buildSlice (R := RInt) (xs := [k3]) (cs := #[(.int .i64 k3)]) (e := 3) rfl rfl (by kernel_rfl) rfl rfl ⟨_, _, rfl, (vint _).cells, rfl⟩ hC6 fun p3 w7 hw2 hb6 hl7 hC7 => ?_)
          have hr2 := hw1.no hb6
          replace hb5 := bind_some hb5
          obtain ⟨z1, hz1, hb5⟩ := hb5
          refine lw_op rfl rfl rfl (ow_append (R := RInt) rfl rfl rfl rfl Tryd.underlying116 hi3 hz3 hs3 hy3 rfl rfl rfl rfl hr2 hw2 hz1 hC7 fun v12 w8 M4 hr3 hb7 hl8 hC8 hM1 hat1 => ?_)
          refine lw_op rfl rfl rfl (ow_assign rfl rfl ?_)
          refine lw_nil ?_
          refine ew_blockN ?_
          refine ew_then ?_
          refine cw_region ?_
          refine lw_op rfl rfl rfl (ow_add rfl rfl rfl ?_)
          refine lw_op rfl rfl rfl (ow_move rfl rfl ?_)
          refine lw_nil ?_
          refine ew_nxt (z1, (W (k3 + 1))) hb5 fun a ha => ⟨M4, v12, ?_, ((hl6.trans hl7).trans hl8), hC8, hr3⟩
          exact ha.sub ⟨rfl, rfl, rfl, trivial⟩
        · subst hc4
          refine cw_false rfl ?_
          refine cw_skip ?_
          refine ew_blockN ?_
          refine ew_then ?_
          refine cw_region ?_
          refine lw_op rfl rfl rfl (ow_add rfl rfl rfl ?_)
          refine lw_op rfl rfl rfl (ow_move rfl rfl ?_)
          refine lw_nil ?_
          refine ew_nxt (y3, (W (k3 + 1))) hb5 fun a ha => ⟨M3, v9, ?_, hl6, hC6, hw1⟩
          exact ha.sub ⟨rfl, rfl, rfl, trivial⟩
      · obtain rfl := hbb3.trans hc3
        refine cw_false rfl ?_
        refine cw_exit ?_
        refine ew_thenX ?_
        refine ew_thenX ?_
        refine ew_blockX ?_
        refine ew_brk (y3, k3) hb5 fun a ha => ⟨M3, v9, ?_, hl6, hC6, hw1⟩
        exact ha.sub ⟨rfl, rfl, rfl, trivial⟩
    · rintro ⟨y4, k4⟩ a w9 hlr4 ⟨M5, v13, hF4, hl9, hC9, hw3⟩
      subst hlr4
      refine ew_at (E := [(6, v13), (22, v8), (23, (.int .i64 k4))]) hF4 ?_
      refine ew_then ?_
      refine cw_seq ?_
      refine cw_region ?_
      refine lw_op rfl rfl rfl (ow_move rfl rfl ?_)
      refine lw_op rfl rfl rfl (ow_assign rfl rfl ?_)
      refine lw_nil ?_
      refine ew_then ?_
      refine cw_ret ?_
      obtain rfl := Option.some.inj h
      exact ew_ret (res1 rfl (.tmp rfl)) ⟨_, rfl, (hw3.freezeBack hC9 hO), hC9.bx⟩

theorem w_impl_visitCalls (n_ : Nat) : ∀ {w : World} {M : Nat → Prop} (hG : ARep (RArr 4 RShape) w M shapes ⟨0, 0, none⟩) (hO : ∀ b, M b → b < w.heap.size) {v0p : Value} {a_chains : List (List Rule)} (h0 : VRep (RSlice (RSlice RRule)) w M a_chains v0p) {a_chain : Int} {g : Nat} {a_colours : List Int} (hown : OwnA (RArr 5 RInt) w M g 166 a_colours) (hgM : M g) {r : Bool × (List Int)} (h : F.impl_visitCalls n_ a_chains a_chain a_colours = some r),
    Calls Tryd.prog 131 [v0p, (.int .i64 a_chain), (.pointer (some ⟨g, 0, none⟩))].toArray w fun e w' => ∃ v, e = .returned v ∧ (VRep RBool w' M r.1 v ∧ OwnA (RArr 5 RInt) w' M g 166 r.2) ∧ BX (One g) w w' := by
  induction n_ with
  | zero =>
    intro w M hG hO v0p a_chains h0 a_chain g a_colours hown hgM r h
    exact (Option.some_ne_none _ (show (none : Option (Bool × (List Int))) = some r from h).symm).elim
  | succ n_ ih =>
  intro w M hG hO v0p a_chains h0 a_chain g a_colours hown hgM r h
  have hX : ∀ b, (One g) b → M b := fun b e => e ▸ hgM
  have hC : Cx (One g) w M w M := Cx.start hO hX
  refine walk (N := 48) Tryd.func131 rfl Tryd.ntmps131 rfl ?_
  refine cw_seq ?_
  refine cw_region ?_
  refine lw_op rfl rfl rfl (ow_assign rfl rfl ?_)
  refine lw_nil ?_
  refine ew_then ?_
  refine cw_seq ?_
  refine cw_seq ?_
  refine cw_region ?_
  refine lw_op rfl rfl rfl (ow_move rfl rfl ?_)
  refine lw_op rfl rfl rfl (ow_move rfl rfl ?_)
  refine lw_op rfl rfl rfl (ow_len rfl rfl h0 Tryd.underlying55 rfl ?_)
  refine lw_op rfl rfl rfl (ow_geq rfl rfl rfl fun bb1 hbb1 => ?_)
  refine lw_nil ?_
  refine ew_then ?_
  replace h := cond_some h
  rcases h with ⟨hc1, h⟩ | ⟨hc1, h⟩
  · obtain rfl := hbb1.trans hc1
    refine cw_true rfl ?_
    refine cw_seq ?_
    refine cw_region ?_
    refine lw_op rfl rfl rfl (ow_assign rfl rfl ?_)
    refine lw_nil ?_
    refine ew_then ?_
    refine cw_ret ?_
    refine ew_thenR ?_
    obtain rfl := Option.some.inj h
    exact ew_ret (res1 rfl (.tmp rfl)) ⟨_, rfl, ⟨((vbool _)), (hown.mono hC.back)⟩, hC.bx⟩
  · obtain rfl := hbb1.trans hc1
    refine cw_false rfl ?_
    refine cw_skip ?_
    refine ew_then ?_
    refine cw_seq ?_
    refine cw_seq ?_
    refine cw_region ?_
    refine lw_op rfl rfl rfl (ow_move rfl rfl ?_)
    refine lw_op rfl rfl rfl (ow_move rfl rfl ?_)
    refine lw_op rfl rfl rfl (ow_nilCheck rfl rfl ?_)
    replace h := bind_some h
    obtain ⟨x1, hx1, h⟩ := h
    refine lw_op rfl rfl rfl (ow_indexA (R := RInt) rfl rfl rfl rfl hown Tryd.underlying166 (Tryd.sizeOf3 _) hx1 ?_)
    refine lw_op rfl rfl rfl (ow_loadElA (R := RInt) rfl rfl rfl hown hx1 (Tryd.sizeOf3 _) (Tryd.isAgg3 _) fun v1 hv1 => ?_)
    obtain rfl := vint_eq hv1
    refine lw_nil ?_
    refine ew_then ?_
    refine cw_block ?_
    refine cw_seq ?_
    refine cw_region ?_
    refine lw_op rfl rfl rfl (ow_eqlI rfl rfl rfl fun bb2 hbb2 => ?_)
    refine lw_op rfl rfl rfl (ow_assign rfl rfl ?_)
    refine lw_nil ?_
    refine ew_then ?_
    replace h := cond_some h
    rcases h with ⟨hc2, h⟩ | ⟨hc2, h⟩
    · obtain rfl := hbb2.trans hc2
      refine cw_true rfl ?_
      refine cw_seq ?_
      refine cw_region ?_
      refine lw_op rfl rfl rfl (ow_assign rfl rfl ?_)
      refine lw_nil ?_
      refine ew_then ?_
      refine cw_ret ?_
      refine ew_blockR ?_
      refine ew_thenR ?_
      obtain rfl := Option.some.inj h
      exact ew_ret (res1 rfl (.tmp rfl)) ⟨_, rfl, ⟨((vbool _)), (hown.mono hC.back)⟩, hC.bx⟩
    · obtain rfl := hbb2.trans hc2
      refine cw_false rfl ?_
      refine cw_seq ?_
      refine cw_region ?_
      refine lw_op rfl rfl rfl (ow_eqlI rfl rfl rfl fun bb3 hbb3 => ?_)
      refine lw_op rfl rfl rfl (ow_assign rfl rfl ?_)
      refine lw_nil ?_
      refine ew_then ?_
      replace h := cond_some h
      rcases h with ⟨hc3, h⟩ | ⟨hc3, h⟩
      · obtain rfl := hbb3.trans hc3
        refine cw_true rfl ?_
        refine cw_seq ?_
        refine cw_region ?_
        refine lw_op rfl rfl rfl (ow_assign rfl rfl ?_)
        refine lw_nil ?_
        refine ew_then ?_
        refine cw_ret ?_
        refine ew_blockR ?_
        refine ew_thenR ?_
        obtain rfl := Option.some.inj h
        exact ew_ret (res1 rfl (.tmp rfl)) ⟨_, rfl, ⟨((vbool _)), (hown.mono hC.back)⟩, hC.bx⟩
      · obtain rfl := hbb3.trans hc3
        refine cw_false rfl ?_
        refine cw_skip ?_
        refine ew_blockN ?_
        refine ew_then ?_
        refine cw_seq ?_
        refine cw_region ?_
        refine lw_op rfl rfl rfl (ow_move rfl rfl ?_)
        refine lw_op rfl rfl rfl (ow_move rfl rfl ?_)
        refine lw_op rfl rfl rfl (ow_nilCheck rfl rfl ?_)
        refine lw_op rfl rfl rfl (ow_indexA (R := RInt) rfl rfl rfl rfl hown Tryd.underlying166 (Tryd.sizeOf3 _) hx1 ?_)
        refine lw_op0 rfl rfl (ow_storeElA (X := (One g)) (R := RInt) rfl rfl rfl rfl hown hx1 (Tryd.sizeOf3 _) (vint _) hgM (.inr rfl) hC fun w1 ho1 hb1 hl1 hC1 => ?_)
        refine lw_nil ?_
        refine ew_then ?_
        refine cw_seq ?_
        refine cw_region ?_
        refine lw_op rfl rfl rfl (ow_assign rfl rfl ?_)
        refine lw_nil ?_
        refine ew_then ?_
        refine cw_seq ?_
        refine cw_seq ?_
        refine cw_region ?_
        refine lw_op rfl rfl rfl (ow_move rfl rfl ?_)
        refine lw_op rfl rfl rfl (ow_move rfl rfl ?_)
        replace h := bind_some h
        obtain ⟨x2, hx2, h⟩ := h
        refine lw_op rfl rfl rfl (ow_indexSlice (R := (RSlice RRule)) rfl rfl rfl (VRep.mono hl1 h0) Tryd.underlying55 (Tryd.sizeOf86 _) hx2 fun p1 hp1 => ?_)
        refine lw_op rfl rfl rfl (ow_load (R := (RSlice RRule)) rfl rfl hp1 (Tryd.sizeOf86 _) (Tryd.isAgg86 _) fun v2 hv2 => ?_)
        replace h := bind_some h
        obtain ⟨x3, hx3, h⟩ := h
        refine lw_op rfl rfl rfl (ow_call rfl rfl Tryd.call87 (w_impl_callsIn (hG.mono hl1) hC1.old hv2 hx3) fun v3 w2 hv3 => ?_)
        obtain ⟨hv3, hb2⟩ := hv3
        have hl2 := Le.no M hb2
        have hC2 := hC1.no hb2
        have ho2 := ho1.no hb2 hl2
        refine lw_op rfl rfl rfl (ow_len rfl rfl hv3 Tryd.underlying116 rfl ?_)
        refine lw_op rfl rfl rfl (ow_move rfl rfl ?_)
        refine lw_nil ?_
        refine ew_then ?_
        replace h := bind_some h
        obtain ⟨lr1, hlr1, h⟩ := h
        refine cw_for hlr1 (fun s a w' => ∃ (M' : Nat → Prop), Fits 48 [(0, v0p), (1, (.int .i64 a_chain)), (2, (.pointer (some ⟨g, 0, none⟩))), (7, (.bool s.1)), (31, v3), (32, (.int .i64 (x3.length : Int))), (33, (.int .i64 s.2.1))] a ∧ Le w2 M w' M' ∧ Cx (One g) w M w' M' ∧ OwnA (RArr 5 RInt) w' M' g 166 s.2.2 ∧ M' g) ?_ ?_ ?_
        · intro a ha
          exact ⟨M, ha.sub ⟨rfl, rfl, rfl, rfl, rfl, rfl, rfl, trivial⟩, Le.refl _ _, hC2, ho2, hgM⟩
        · rintro ⟨y1, k1, y2⟩ a w3 sr1 ⟨M1, hF1, hl3, hC3, ho3, hm1⟩ hb3 hR1
          refine cw_at (E := [(0, v0p), (1, (.int .i64 a_chain)), (2, (.pointer (some ⟨g, 0, none⟩))), (7, (.bool y1)), (31, v3), (32, (.int .i64 (x3.length : Int))), (33, (.int .i64 k1))]) hF1 ?_
          refine cw_seq ?_
          refine cw_region ?_
          refine lw_op rfl rfl rfl (ow_lss rfl rfl rfl fun bb4 hbb4 => ?_)
          refine lw_nil ?_
          refine ew_then ?_
          refine cw_seq ?_
          replace hb3 := cond_some hb3
          rcases hb3 with ⟨hc4, hb3⟩ | ⟨hc4, hb3⟩
          · obtain rfl := hbb4.trans hc4
            refine cw_true rfl ?_
            refine cw_skip ?_
            refine ew_then ?_
            refine cw_seq ?_
            refine cw_block ?_
            refine cw_seq ?_
            refine cw_region ?_
            replace hb3 := bind_some hb3
            obtain ⟨x4, hx4, hb3⟩ := hb3
            refine lw_op rfl rfl rfl (ow_indexSlice (R := RInt) rfl rfl rfl (VRep.mono hl3 hv3) Tryd.underlying116 (Tryd.sizeOf3 _) hx4 fun p2 hp2 => ?_)
            refine lw_op rfl rfl rfl (ow_load (R := RInt) rfl rfl hp2 (Tryd.sizeOf3 _) (Tryd.isAgg3 _) fun v7 hv7 => ?_)
            obtain rfl := vint_eq hv7
            refine lw_op rfl rfl rfl (ow_assign rfl rfl ?_)
            refine lw_nil ?_
            refine ew_then ?_
            refine cw_seq ?_
            refine cw_region ?_
            refine lw_op rfl rfl rfl (ow_move rfl rfl ?_)
            refine lw_op rfl rfl rfl (ow_move rfl rfl ?_)
            refine lw_op rfl rfl rfl (ow_move rfl rfl ?_)
            replace hb3 := bind_some hb3
            obtain ⟨x5, hx5, hb3⟩ := hb3
            refine lw_op rfl rfl rfl (ow_call rfl rfl Tryd.call131 (ih (hG.mono ((hl1.trans hl2).trans hl3)) hC3.old (VRep.mono ((hl1.trans hl2).trans hl3) h0) ho3 hm1 hx5) fun v8 w4 hv8 => ?_)
            obtain ⟨⟨hv8, ho4⟩, hb4⟩ := hv8
            have hl4 := Le.of_bx M1 hb4 (fun b e => (by rw [show b = g from e]; exact hm1))
            have hC4 := hC3.go hb4 (fun b e => Or.inr e)
            obtain ⟨bb5, hbb5, rfl⟩ := vbool_ex hv8
            refine lw_op rfl rfl rfl (ow_not rfl rfl ?_)
            refine lw_nil ?_
            refine ew_then ?_
            replace hb3 := cond_some hb3
            rcases hb3 with ⟨hc5, hb3⟩ | ⟨hc5, hb3⟩
            · obtain rfl := hbb5.trans hc5
              refine cw_false rfl ?_
              refine cw_skip ?_
              refine ew_blockN ?_
              refine ew_then ?_
              refine cw_region ?_
              refine lw_op rfl rfl rfl (ow_add rfl rfl rfl ?_)
              refine lw_op rfl rfl rfl (ow_move rfl rfl ?_)
              refine lw_nil ?_
              refine ew_nxt (y1, (W (k1 + 1)), x5.2) hb3 fun a ha => ⟨M1, ?_, (hl3.trans hl4), hC4, ho4, hm1⟩
              exact ha.sub ⟨rfl, rfl, rfl, rfl, rfl, rfl, rfl, trivial⟩
            · obtain rfl := hbb5.trans hc5
              refine cw_true rfl ?_
              refine cw_region ?_
              refine lw_op rfl rfl rfl (ow_assign rfl rfl ?_)
              refine lw_nil ?_
              refine ew_blockN ?_
              refine ew_then ?_
              refine cw_region ?_
              refine lw_op rfl rfl rfl (ow_add rfl rfl rfl ?_)
              refine lw_op rfl rfl rfl (ow_move rfl rfl ?_)
              refine lw_nil ?_
              refine ew_nxt (false, (W (k1 + 1)), x5.2) hb3 fun a ha => ⟨M1, ?_, (hl3.trans hl4), hC4, ho4, hm1⟩
              exact ha.sub ⟨rfl, rfl, rfl, rfl, rfl, rfl, rfl, trivial⟩
          · obtain rfl := hbb4.trans hc4
            refine cw_false rfl ?_
            refine cw_exit ?_
            refine ew_thenX ?_
            refine ew_thenX ?_
            refine ew_blockX ?_
            refine ew_brk (y1, k1, y2) hb3 fun a ha => ⟨M1, ?_, hl3, hC3, ho3, hm1⟩
            exact ha.sub ⟨rfl, rfl, rfl, rfl, rfl, rfl, rfl, trivial⟩
        · rintro ⟨y3, k2, y4⟩ a w5 hlr2 ⟨M2, hF2, hl5, hC5, ho5, hm2⟩
          subst hlr2
          refine ew_at (E := [(0, v0p), (1, (.int .i64 a_chain)), (2, (.pointer (some ⟨g, 0, none⟩))), (7, (.bool y3)), (31, v3), (32, (.int .i64 (x3.length : Int))), (33, (.int .i64 k2))]) hF2 ?_
          refine ew_then ?_
          refine cw_seq ?_
          refine cw_region ?_
          refine lw_op rfl rfl rfl (ow_move rfl rfl ?_)
          refine lw_op rfl rfl rfl (ow_move rfl rfl ?_)
          refine lw_op rfl rfl rfl (ow_nilCheck rfl rfl ?_)
          replace h := bind_some h
          obtain ⟨x6, hx6, h⟩ := h
          refine lw_op rfl rfl rfl (ow_indexA (R := RInt) rfl rfl rfl rfl ho5 Tryd.underlying166 (Tryd.sizeOf3 _) hx6 ?_)
          refine lw_op0 rfl rfl (ow_storeElA (X := (One g)) (R := RInt) rfl rfl rfl rfl ho5 hx6 (Tryd.sizeOf3 _) (vint _) hm2 (.inr rfl) hC5 fun w6 ho6 hb5 hl6 hC6 => ?_)
          refine lw_nil ?_
          refine ew_then ?_
          refine cw_seq ?_
          refine cw_region ?_
          refine lw_op rfl rfl rfl (ow_move rfl rfl ?_)
          refine lw_op rfl rfl rfl (ow_assign rfl rfl ?_)
          refine lw_nil ?_
          refine ew_then ?_
          refine cw_ret ?_
          obtain rfl := Option.some.inj h
          exact ew_ret (res1 rfl (.tmp rfl)) ⟨_, rfl, ⟨((vbool _)), (ho6.mono hC6.back)⟩, hC6.bx⟩

theorem w_impl_acyclic {w : World} {M : Nat → Prop} (hG : ARep (RArr 4 RShape) w M shapes ⟨0, 0, none⟩) (hO : ∀ b, M b → b < w.heap.size) {v0p : Value} {a_chains : List (List Rule)} (h0 : VRep (RSlice (RSlice RRule)) w M a_chains v0p) {r : Bool} (h : F.impl_acyclic a_chains = some r) :
    Calls Tryd.prog 88 [v0p].toArray w fun e w' => ∃ v, e = .returned v ∧ VRep RBool w' M r v ∧ BX No w w' := by
  have hC : Cx No w M w M := Cx.start hO (fun _ e => e.elim)
  refine walk (N := 15) Tryd.func88 rfl Tryd.ntmps88 rfl ?_
  refine cw_seq ?_
  refine cw_region ?_
  refine lw_op rfl rfl rfl (ow_assign rfl rfl ?_)
  refine lw_nil ?_
  refine ew_then ?_
  refine cw_seq ?_
  refine cw_region ?_
  refine lw_op rfl rfl rfl (ow_alloc rfl (Tryd.zeroValue166 _) hC fun g1 w1 hg1 hg2 ho1 hb1 hl1 hC1 => ?_)
  have hm1 : (Add g1 M) g1 := .inl rfl
  have ho2 : OwnA (RArr 5 RInt) w1 (Add g1 M) g1 166 [0, 0, 0, 0, 0] := OwnA.of ho1 ⟨rfl, ⟨_, _, rfl, (vint _).cells, _, _, rfl, (vint _).cells, _, _, rfl, (vint _).cells, _, _, rfl, (vint _).cells, _, _, rfl, (vint _).cells, rfl⟩⟩
  refine lw_nil ?_
  refine ew_then ?_
  refine cw_seq ?_
  refine cw_seq ?_
  refine cw_region ?_
  refine lw_op rfl rfl rfl (ow_move rfl rfl ?_)
  refine lw_op rfl rfl rfl (ow_len rfl rfl (VRep.mono hl1 h0) Tryd.underlying55 rfl ?_)
  refine lw_op rfl rfl rfl (ow_move rfl rfl ?_)
  refine lw_nil ?_
  refine ew_then ?_
  replace h := bind_some h
  obtain ⟨lr1, hlr1, h⟩ := h
  refine cw_for hlr1 (fun s a w' => ∃ (M' : Nat → Prop), Fits 15 [(0, v0p), (3, (.pointer (some ⟨g1, 0, none⟩))), (6, (.int .i64 (a_chains.length : Int))), (7, (.int .i64 s.1))] a ∧ Le w1 (Add g1 M) w' M' ∧ Cx No w M w' M' ∧ OwnA (RArr 5 RInt) w' M' g1 166 s.2 ∧ M' g1) ?_ ?_ ?_
  · intro a ha
    exact ⟨(Add g1 M), ha.sub ⟨rfl, rfl, rfl, rfl, trivial⟩, Le.refl _ _, hC1, ho2, hm1⟩
  · rintro ⟨k1, y1⟩ a w2 sr1 ⟨M1, hF1, hl2, hC2, ho3, hm2⟩ hb2 hR1
    refine cw_at (E := [(0, v0p), (3, (.pointer (some ⟨g1, 0, none⟩))), (6, (.int .i64 (a_chains.length : Int))), (7, (.int .i64 k1))]) hF1 ?_
    refine cw_seq ?_
    refine cw_region ?_
    refine lw_op rfl rfl rfl (ow_lss rfl rfl rfl fun bb1 hbb1 => ?_)
    refine lw_nil ?_
    refine ew_then ?_
    refine cw_seq ?_
    replace hb2 := cond_some hb2
    rcases hb2 with ⟨hc1, hb2⟩ | ⟨hc1, hb2⟩
    · obtain rfl := hbb1.trans hc1
      refine cw_true rfl ?_
      refine cw_skip ?_
      refine ew_then ?_
      refine cw_seq ?_
      refine cw_block ?_
      refine cw_seq ?_
      refine cw_region ?_
      refine lw_op rfl rfl rfl (ow_move rfl rfl ?_)
      refine lw_op rfl rfl rfl (ow_assign rfl rfl ?_)
      refine lw_nil ?_
      refine ew_then ?_
      refine cw_seq ?_
      refine cw_region ?_
      refine lw_op rfl rfl rfl (ow_move rfl rfl ?_)
      refine lw_op rfl rfl rfl (ow_move rfl rfl ?_)
      replace hb2 := bind_some hb2
      obtain ⟨x1, hx1, hb2⟩ := hb2
      refine lw_op rfl rfl rfl (ow_call rfl rfl Tryd.call131 (w_impl_visitCalls 10 (hG.mono (hl1.trans hl2)) hC2.old (VRep.mono (hl1.trans hl2) h0) ho3 hm2 hx1) fun v3 w3 hv3 => ?_)
      obtain ⟨⟨hv3, ho4⟩, hb3⟩ := hv3
      have hl3 := Le.of_bx M1 hb3 (fun b e => (by rw [show b = g1 from e]; exact hm2))
      have hC3 := hC2.go hb3 (fun b e => (by rw [show b = g1 from e]; exact (.inl hg2)))
      obtain ⟨bb2, hbb2, rfl⟩ := vbool_ex hv3
      refine lw_op rfl rfl rfl (ow_not rfl rfl ?_)
      refine lw_nil ?_
      refine ew_then ?_
      replace hb2 := cond_some hb2
      rcases hb2 with ⟨hc2, hb2⟩ | ⟨hc2, hb2⟩
      · obtain rfl := hbb2.trans hc2
        refine cw_false rfl ?_
        refine cw_skip ?_
        refine ew_blockN ?_
        refine ew_then ?_
        refine cw_region ?_
        refine lw_op rfl rfl rfl (ow_add rfl rfl rfl ?_)
        refine lw_op rfl rfl rfl (ow_move rfl rfl ?_)
        refine lw_nil ?_
        refine ew_nxt ((W (k1 + 1)), x1.2) hb2 fun a ha => ⟨M1, ?_, (hl2.trans hl3), hC3, ho4, hm2⟩
        exact ha.sub ⟨rfl, rfl, rfl, rfl, trivial⟩
      · obtain rfl := hbb2.trans hc2
        refine cw_true rfl ?_
        refine cw_seq ?_
        refine cw_region ?_
        refine lw_op rfl rfl rfl (ow_assign rfl rfl ?_)
        refine lw_nil ?_
        refine ew_then ?_
        refine cw_ret ?_
        refine ew_blockR ?_
        refine ew_thenR ?_
        refine ew_thenR ?_
        refine ew_blockR ?_
        refine ew_brkR ?_
        refine ew_thenR ?_
        have e1 := hR1 _ (Option.some.inj hb2).symm
        subst e1
        obtain rfl := Option.some.inj h
        exact ew_ret (res1 rfl (.tmp rfl)) ⟨_, rfl, ((vbool _)), hC3.bx⟩
    · obtain rfl := hbb1.trans hc1
      refine cw_false rfl ?_
      refine cw_exit ?_
      refine ew_thenX ?_
      refine ew_thenX ?_
      refine ew_blockX ?_
      refine ew_brk (k1, y1) hb2 fun a ha => ⟨M1, ?_, hl2, hC2, ho3, hm2⟩
      exact ha.sub ⟨rfl, rfl, rfl, rfl, trivial⟩
  · rintro ⟨k2, y2⟩ a w4 hlr2 ⟨M2, hF2, hl4, hC4, ho5, hm3⟩
    subst hlr2
    refine ew_at (E := [(0, v0p), (3, (.pointer (some ⟨g1, 0, none⟩))), (6, (.int .i64 (a_chains.length : Int))), (7, (.int .i64 k2))]) hF2 ?_
    refine ew_then ?_
    refine cw_seq ?_
    refine cw_region ?_
    refine lw_op rfl rfl rfl (ow_assign rfl rfl ?_)
    refine lw_nil ?_
    refine ew_then ?_
    refine cw_ret ?_
    obtain rfl := Option.some.inj h
    exact ew_ret (res1 rfl (.tmp rfl)) ⟨_, rfl, ((vbool _)), hC4.bx⟩


end Go.PF
