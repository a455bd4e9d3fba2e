/- The walks; no condition. -/
import Derived.Test.YtbnndochnkkllaaDoorProg
import Derived.Test.YtbnndochnkkllaaDoorWk2
import Derived.Test.YtbnndochnkkllaaDoorPFFresh
set_option maxRecDepth 100000
set_option maxHeartbeats 4000000
namespace Go.PF
open Go Go.RowKit Go.Proofs

theorem w_spec_TestHolds {w : World} {M : Nat → Prop} (hG : ARep (RArr 4 RShape) w M shapes ⟨0, 0, none⟩) (hO : ∀ b, M b → b < w.heap.size) {v0p : Value} {a_t : Test} (h0 : VRep RTest w M a_t v0p) {v1p : Value} {a_p : Packet} (h1 : VRep RPacket w M a_p v1p) {r : Bool} (h : F.spec_TestHolds a_t a_p = some r) :
  Calls Tryd.prog 176 [v0p, v1p].toArray w fun e w' => ∃ v, e = .returned v ∧ VRep RBool w' M r v ∧ BX No w w' := by
 have hC : Cx No w M w M := Cx.start hO (fun _ e => e.elim)
 refine walk (N := 25) Tryd.func176 Z Tryd.ntmps176 Z (cw_seq (cw_region (lw_op Z Z Z (ow_box (R := RTest) Z Z h0 hC fun p1 w1 hp1 hb1 hl1 hC1 => lw_op Z Z Z (ow_box (R := RPacket) Z Z (VRep.mono hl1 h1) hC1 fun p2 w2 hp2 hb2 hl2 hC2 => lw_op Z Z Z (ow_assign Z Z (lw_nil (ew_then (cw_seq ?_)))))))))
 replace h := bind_some h
 obtain ⟨x1, hx1, h⟩ := h
 replace h := cond_some h
 rcases h with ⟨hc1, h⟩ | ⟨hc1, h⟩
 ·
  subst hc1
  replace h := bind_some h
  obtain ⟨x2, hx2, h⟩ := h
  replace h := cond_some h
  rcases h with ⟨hc2, h⟩ | ⟨hc2, h⟩
  ·
   subst hc2
   replace h := bind_some h
   obtain ⟨x3, hx3, h⟩ := h
   replace h := bind_some h
   obtain ⟨x4, hx4, h⟩ := h
   have lz1 := (hl1.trans hl2)
   refine cw_sub (E' := [(2, (.pointer (some p1))), (3, (.pointer (some p2))), (4, (.bool false))]) ⟨Z, Z, Z, trivial⟩ (cw_drawQ 18 [PV RTest M a_t, PEq (.bool true), PEq (.bool true), PV RPacket M a_p, PEq (.bool true), PEq (.bool true), PEq (.bool true), PV RPacket M a_p, PA RInt M a_t.Field, PEq (.int .i64 a_t.Field), PEq (.int .i64 x3), PA RInt M a_t.Lo, PEq (.int .i64 a_t.Lo), PA RInt M a_t.Hi, PEq (.int .i64 a_t.Hi), PEq (.bool x4), PA RBool M a_t.Not, PEq (.bool a_t.Not)] (by kernel_rfl) Z (by kernel_rfl) ⟨PV.mono _ _ _, PEq.mono _, PEq.mono _, PV.mono _ _ _, PEq.mono _, PEq.mono _, PEq.mono _, PV.mono _ _ _, PA.mono _ _ _, PEq.mono _, PEq.mono _, PA.mono _ _ _, PEq.mono _, PA.mono _ _ _, PEq.mono _, PEq.mono _, PA.mono _ _ _, PEq.mono _, trivial⟩ ⟨?_, ?_, ?_, ?_, ?_, ?_, ?_, ?_, ?_, ?_, ?_, ?_, ?_, ?_, ?_, ?_, ?_, ?_, trivial⟩ ?_)
   ·
    intro w7 D hS1 hd1
    have hl7 := Le.no M hS1
    exact dg_sub (E' := [(2, (.pointer (some p1)))]) ⟨Z, trivial⟩ (dg_plain Z (ow_load (R := RTest) Z Z (ARep.mono (hl2.trans hl7) hp1) (Tryd.sizeOf128 _) (Tryd.isAgg128 _) fun v12 hv12 => ⟨BX.refl _ _, hv12⟩))
   ·
    intro w8 D hS2 hd2
    have hl8 := Le.no M hS2
    have hC8 := hC2.no hS2
    have d1 : PV RTest M a_t (D 0) w8 := dpA hd2 0 Z
    generalize hq1 : (D 0) = v13 at d1
    refine dg_sub (E' := [(5, v13)]) ⟨(congrArg some hq1), trivial⟩ (dg_plain Z (ow_call Z Z Tryd.call157 (w_spec_TestValid (hG.mono (lz1.trans hl8)) hC8.old d1 hx1) fun v14 w9 hv14 => ?_))
    obtain ⟨hv14, hb7⟩ := hv14
    obtain rfl := vbool_eq hv14
    exact ⟨hb7, Z⟩
   ·
    intro w10 D hS3 hd3
    exact dg_sub (E' := [(6, (.bool true))]) ⟨(dpE hd3 1 Z Z), trivial⟩ (dg_plain Z (ow_move Z Z ⟨BX.refl _ _, Z⟩))
   ·
    intro w11 D hS4 hd4
    have hl11 := Le.no M hS4
    exact dg_sub (E' := [(7, (.bool true)), (3, (.pointer (some p2)))]) ⟨(dpE hd4 2 Z Z), Z, trivial⟩ (dg_on Z Z Z Z (ow_load (R := RPacket) Z Z (ARep.mono hl11 hp2) (Tryd.sizeOf27 _) (Tryd.isAgg27 _) fun v15 hv15 => ⟨BX.refl _ _, hv15⟩))
   ·
    intro w12 D hS5 hd5
    have hl12 := Le.no M hS5
    have hC12 := hC2.no hS5
    have d5 : PV RPacket M a_p (D 3) w12 := dpA hd5 3 Z
    generalize hq2 : (D 3) = v16 at d5
    refine dg_sub (E' := [(8, v16), (7, (.bool true))]) ⟨(congrArg some hq2), (dpE hd5 2 Z Z), trivial⟩ (dg_on Z Z Z Z (ow_call Z Z Tryd.call81 (w_spec_PacketValid (hG.mono (lz1.trans hl12)) hC12.old d5 hx2) fun v17 w13 hv17 => ?_))
    obtain ⟨hv17, hb8⟩ := hv17
    obtain rfl := vbool_eq hv17
    exact ⟨hb8, Z⟩
   ·
    intro w14 D hS6 hd6
    exact dg_sub (E' := [(7, (.bool true)), (9, (.bool true))]) ⟨(dpE hd6 2 Z Z), (dpE hd6 4 Z Z), trivial⟩ (dg_plain Z (ow_pickT Z Z Z ⟨BX.refl _ _, Z⟩))
   ·
    intro w15 D hS7 hd7
    exact dg_sub (E' := [(10, (.bool true))]) ⟨(dpE hd7 5 Z Z), trivial⟩ (dg_plain Z (ow_move Z Z ⟨BX.refl _ _, Z⟩))
   ·
    intro w16 D hS8 hd8
    have hl16 := Le.no M hS8
    exact dg_sub (E' := [(11, (.bool true)), (3, (.pointer (some p2)))]) ⟨(dpE hd8 6 Z Z), Z, trivial⟩ (dg_on Z Z Z Z (ow_load (R := RPacket) Z Z (ARep.mono hl16 hp2) (Tryd.sizeOf27 _) (Tryd.isAgg27 _) fun v18 hv18 => ⟨BX.refl _ _, hv18⟩))
   ·
    intro w17 D hS9 hd9
    have hl17 := Le.no M hS9
    exact dg_sub (E' := [(11, (.bool true)), (2, (.pointer (some p1)))]) ⟨(dpE hd9 6 Z Z), Z, trivial⟩ (dg_on Z Z Z Z (ow_fieldAddr Z Z Tryd.underlying128 Z (Tryd.sizeOf3 _) ⟨BX.refl _ _, ⟨_, Z, (ARep.mono (hl2.trans hl17) (hp1.fld fld_Test_Field))⟩⟩))
   ·
    intro w18 D hS10 hd10
    have d14 : PA RInt M a_t.Field (D 8) w18 := dpA hd10 8 Z
    obtain ⟨p3, e1, ha1⟩ := d14
    refine dg_sub (E' := [(13, (.pointer (some p3))), (11, (.bool true))]) ⟨(congrArg some e1), (dpE hd10 6 Z Z), trivial⟩ (dg_on Z Z Z Z (ow_load (R := RInt) Z Z ha1 (Tryd.sizeOf3 _) (Tryd.isAgg3 _) fun v19 hv19 => ?_))
    obtain rfl := vint_eq hv19
    exact ⟨BX.refl _ _, Z⟩
   ·
    intro w19 D hS11 hd11
    have hl19 := Le.no M hS11
    have hC19 := hC2.no hS11
    have d16 : PV RPacket M a_p (D 7) w19 := dpA hd11 7 Z
    generalize hq3 : (D 7) = v20 at d16
    refine dg_sub (E' := [(12, v20), (14, (.int .i64 a_t.Field)), (11, (.bool true))]) ⟨(congrArg some hq3), (dpE hd11 9 Z Z), (dpE hd11 6 Z Z), trivial⟩ (dg_on Z Z Z Z (ow_call Z Z Tryd.call195 (w_spec_PacketField (hG.mono (lz1.trans hl19)) hC19.old d16 hx3) fun v21 w20 hv21 => ?_))
    obtain ⟨hv21, hb9⟩ := hv21
    obtain rfl := vint_eq hv21
    exact ⟨hb9, Z⟩
   ·
    intro w21 D hS12 hd12
    have hl21 := Le.no M hS12
    exact dg_sub (E' := [(11, (.bool true)), (2, (.pointer (some p1)))]) ⟨(dpE hd12 6 Z Z), Z, trivial⟩ (dg_on Z Z Z Z (ow_fieldAddr Z Z Tryd.underlying128 Z (Tryd.sizeOf3 _) ⟨BX.refl _ _, ⟨_, Z, (ARep.mono (hl2.trans hl21) (hp1.fld fld_Test_Lo))⟩⟩))
   ·
    intro w22 D hS13 hd13
    have d21 : PA RInt M a_t.Lo (D 11) w22 := dpA hd13 11 Z
    obtain ⟨p4, e2, ha2⟩ := d21
    refine dg_sub (E' := [(16, (.pointer (some p4))), (11, (.bool true))]) ⟨(congrArg some e2), (dpE hd13 6 Z Z), trivial⟩ (dg_on Z Z Z Z (ow_load (R := RInt) Z Z ha2 (Tryd.sizeOf3 _) (Tryd.isAgg3 _) fun v22 hv22 => ?_))
    obtain rfl := vint_eq hv22
    exact ⟨BX.refl _ _, Z⟩
   ·
    intro w23 D hS14 hd14
    have hl23 := Le.no M hS14
    exact dg_sub (E' := [(11, (.bool true)), (2, (.pointer (some p1)))]) ⟨(dpE hd14 6 Z Z), Z, trivial⟩ (dg_on Z Z Z Z (ow_fieldAddr Z Z Tryd.underlying128 Z (Tryd.sizeOf3 _) ⟨BX.refl _ _, ⟨_, Z, (ARep.mono (hl2.trans hl23) (hp1.fld fld_Test_Hi))⟩⟩))
   ·
    intro w24 D hS15 hd15
    have d24 : PA RInt M a_t.Hi (D 13) w24 := dpA hd15 13 Z
    obtain ⟨p5, e3, ha3⟩ := d24
    refine dg_sub (E' := [(18, (.pointer (some p5))), (11, (.bool true))]) ⟨(congrArg some e3), (dpE hd15 6 Z Z), trivial⟩ (dg_on Z Z Z Z (ow_load (R := RInt) Z Z ha3 (Tryd.sizeOf3 _) (Tryd.isAgg3 _) fun v23 hv23 => ?_))
    obtain rfl := vint_eq hv23
    exact ⟨BX.refl _ _, Z⟩
   ·
    intro w25 D hS16 hd16
    have hl25 := Le.no M hS16
    have hC25 := hC2.no hS16
    refine dg_sub (E' := [(15, (.int .i64 x3)), (17, (.int .i64 a_t.Lo)), (19, (.int .i64 a_t.Hi)), (11, (.bool true))]) ⟨(dpE hd16 10 Z Z), (dpE hd16 12 Z Z), (dpE hd16 14 Z Z), (dpE hd16 6 Z Z), trivial⟩ (dg_on Z Z Z Z (ow_call Z Z Tryd.call118 (w_spec_l1In (hG.mono (lz1.trans hl25)) hC25.old hx4) fun v24 w26 hv24 => ?_))
    obtain ⟨hv24, hb10⟩ := hv24
    obtain rfl := vbool_eq hv24
    exact ⟨hb10, Z⟩
   ·
    intro w27 D hS17 hd17
    have hl27 := Le.no M hS17
    exact dg_sub (E' := [(11, (.bool true)), (2, (.pointer (some p1)))]) ⟨(dpE hd17 6 Z Z), Z, trivial⟩ (dg_on Z Z Z Z (ow_fieldAddr Z Z Tryd.underlying128 Z (Tryd.sizeOf4 _) ⟨BX.refl _ _, ⟨_, Z, (ARep.mono (hl2.trans hl27) (hp1.fld fld_Test_Not))⟩⟩))
   ·
    intro w28 D hS18 hd18
    have d32 : PA RBool M a_t.Not (D 16) w28 := dpA hd18 16 Z
    obtain ⟨p6, e4, ha4⟩ := d32
    refine dg_sub (E' := [(21, (.pointer (some p6))), (11, (.bool true))]) ⟨(congrArg some e4), (dpE hd18 6 Z Z), trivial⟩ (dg_on Z Z Z Z (ow_load (R := RBool) Z Z ha4 (Tryd.sizeOf4 _) (Tryd.isAgg4 _) fun v25 hv25 => ?_))
    obtain ⟨bb2, hbb2, rfl⟩ := vbool_ex hv25
    exact ⟨BX.refl _ _, (congrArg Value.bool hbb2)⟩
   ·
    intro w29 D hS19 hd19
    have d49 : PEq (.bool x4) (D 15) w29 := dpA hd19 15 Z
    have d51 : PEq (.bool a_t.Not) (D 17) w29 := dpA hd19 17 Z
    have hC29 := hC2.no hS19
    obtain ⟨bb3, hq4, hq5⟩ : ∃ b, b = x4 ∧ (D 15) = .bool b := ⟨_, rfl, d49⟩
    obtain ⟨bb4, hq6, hq7⟩ : ∃ b, b = a_t.Not ∧ (D 17) = .bool b := ⟨_, rfl, d51⟩
    refine lw_sub (E' := [(11, (.bool true)), (20, (.bool bb3)), (22, (.bool bb4)), (2, (.pointer (some p1))), (3, (.pointer (some p2))), (4, (.bool false))]) ⟨(dpE hd19 6 Z Z), (congrArg some hq5), (congrArg some hq7), Z, Z, Z, trivial⟩ (lw_on Z Z Z Z Z Z (ow_neqB Z Z Z Tryd.underlying4 fun bb5 hbb5 => ?_))
    have hbb5' : bb5 = (x4 != a_t.Not) := hbb5.trans (by rw [hq4, hq6])
    refine lw_op Z Z Z (ow_pickT Z Z Z (lw_op Z Z Z (ow_assign Z Z (lw_nil (ew_then (cw_ret ?_))))))
    obtain rfl := Option.some.inj h
    exact ew_ret (res1 Z (.tmp Z)) ⟨_, Z, ((vbool_of hbb5')), hC29.bx⟩
  ·
   subst hc2
   have lz2 := (hl1.trans hl2)
   refine cw_sub (E' := [(2, (.pointer (some p1))), (3, (.pointer (some p2))), (4, (.bool false))]) ⟨Z, Z, Z, trivial⟩ (cw_drawQ 18 [PV RTest M a_t, PEq (.bool true), PEq (.bool true), PV RPacket M a_p, PEq (.bool false), PEq (.bool false), PEq (.bool false), PEq undef, PEq undef, PEq undef, PEq undef, PEq undef, PEq undef, PEq undef, PEq undef, PEq undef, PEq undef, PEq undef] (by kernel_rfl) Z (by kernel_rfl) ⟨PV.mono _ _ _, PEq.mono _, PEq.mono _, PV.mono _ _ _, PEq.mono _, PEq.mono _, PEq.mono _, PEq.mono _, PEq.mono _, PEq.mono _, PEq.mono _, PEq.mono _, PEq.mono _, PEq.mono _, PEq.mono _, PEq.mono _, PEq.mono _, PEq.mono _, trivial⟩ ⟨?_, ?_, ?_, ?_, ?_, ?_, ?_, ?_, ?_, ?_, ?_, ?_, ?_, ?_, ?_, ?_, ?_, ?_, trivial⟩ ?_)
   ·
    intro w30 D hS20 hd20
    have hl30 := Le.no M hS20
    exact dg_sub (E' := [(2, (.pointer (some p1)))]) ⟨Z, trivial⟩ (dg_plain Z (ow_load (R := RTest) Z Z (ARep.mono (hl2.trans hl30) hp1) (Tryd.sizeOf128 _) (Tryd.isAgg128 _) fun v26 hv26 => ⟨BX.refl _ _, hv26⟩))
   ·
    intro w31 D hS21 hd21
    have hl31 := Le.no M hS21
    have hC31 := hC2.no hS21
    have d52 : PV RTest M a_t (D 0) w31 := dpA hd21 0 Z
    generalize hq8 : (D 0) = v27 at d52
    refine dg_sub (E' := [(5, v27)]) ⟨(congrArg some hq8), trivial⟩ (dg_plain Z (ow_call Z Z Tryd.call157 (w_spec_TestValid (hG.mono (lz2.trans hl31)) hC31.old d52 hx1) fun v28 w32 hv28 => ?_))
    obtain ⟨hv28, hb11⟩ := hv28
    obtain rfl := vbool_eq hv28
    exact ⟨hb11, Z⟩
   ·
    intro w33 D hS22 hd22
    exact dg_sub (E' := [(6, (.bool true))]) ⟨(dpE hd22 1 Z Z), trivial⟩ (dg_plain Z (ow_move Z Z ⟨BX.refl _ _, Z⟩))
   ·
    intro w34 D hS23 hd23
    have hl34 := Le.no M hS23
    exact dg_sub (E' := [(7, (.bool true)), (3, (.pointer (some p2)))]) ⟨(dpE hd23 2 Z Z), Z, trivial⟩ (dg_on Z Z Z Z (ow_load (R := RPacket) Z Z (ARep.mono hl34 hp2) (Tryd.sizeOf27 _) (Tryd.isAgg27 _) fun v29 hv29 => ⟨BX.refl _ _, hv29⟩))
   ·
    intro w35 D hS24 hd24
    have hl35 := Le.no M hS24
    have hC35 := hC2.no hS24
    have d56 : PV RPacket M a_p (D 3) w35 := dpA hd24 3 Z
    generalize hq9 : (D 3) = v30 at d56
    refine dg_sub (E' := [(8, v30), (7, (.bool true))]) ⟨(congrArg some hq9), (dpE hd24 2 Z Z), trivial⟩ (dg_on Z Z Z Z (ow_call Z Z Tryd.call81 (w_spec_PacketValid (hG.mono (lz2.trans hl35)) hC35.old d56 hx2) fun v31 w36 hv31 => ?_))
    obtain ⟨hv31, hb12⟩ := hv31
    obtain rfl := vbool_eq hv31
    exact ⟨hb12, Z⟩
   ·
    intro w37 D hS25 hd25
    exact dg_sub (E' := [(7, (.bool true)), (9, (.bool false))]) ⟨(dpE hd25 2 Z Z), (dpE hd25 4 Z Z), trivial⟩ (dg_plain Z (ow_pickT Z Z Z ⟨BX.refl _ _, Z⟩))
   ·
    intro w38 D hS26 hd26
    exact dg_sub (E' := [(10, (.bool false))]) ⟨(dpE hd26 5 Z Z), trivial⟩ (dg_plain Z (ow_move Z Z ⟨BX.refl _ _, Z⟩))
   ·
    intro w39 D hS27 hd27
    exact dg_sub (E' := [(11, (.bool false)), (3, (.pointer (some p2)))]) ⟨(dpE hd27 6 Z Z), Z, trivial⟩ (dg_off Z Z Z Z ⟨BX.refl _ _, Z⟩)
   ·
    intro w40 D hS28 hd28
    exact dg_sub (E' := [(11, (.bool false)), (2, (.pointer (some p1)))]) ⟨(dpE hd28 6 Z Z), Z, trivial⟩ (dg_off Z Z Z Z ⟨BX.refl _ _, Z⟩)
   ·
    intro w41 D hS29 hd29
    exact dg_sub (E' := [(13, undef), (11, (.bool false))]) ⟨(dpE hd29 8 Z Z), (dpE hd29 6 Z Z), trivial⟩ (dg_off Z Z Z Z ⟨BX.refl _ _, Z⟩)
   ·
    intro w42 D hS30 hd30
    exact dg_sub (E' := [(12, undef), (14, undef), (11, (.bool false))]) ⟨(dpE hd30 7 Z Z), (dpE hd30 9 Z Z), (dpE hd30 6 Z Z), trivial⟩ (dg_off Z Z Z Z ⟨BX.refl _ _, Z⟩)
   ·
    intro w43 D hS31 hd31
    exact dg_sub (E' := [(11, (.bool false)), (2, (.pointer (some p1)))]) ⟨(dpE hd31 6 Z Z), Z, trivial⟩ (dg_off Z Z Z Z ⟨BX.refl _ _, Z⟩)
   ·
    intro w44 D hS32 hd32
    exact dg_sub (E' := [(16, undef), (11, (.bool false))]) ⟨(dpE hd32 11 Z Z), (dpE hd32 6 Z Z), trivial⟩ (dg_off Z Z Z Z ⟨BX.refl _ _, Z⟩)
   ·
    intro w45 D hS33 hd33
    exact dg_sub (E' := [(11, (.bool false)), (2, (.pointer (some p1)))]) ⟨(dpE hd33 6 Z Z), Z, trivial⟩ (dg_off Z Z Z Z ⟨BX.refl _ _, Z⟩)
   ·
    intro w46 D hS34 hd34
    exact dg_sub (E' := [(18, undef), (11, (.bool false))]) ⟨(dpE hd34 13 Z Z), (dpE hd34 6 Z Z), trivial⟩ (dg_off Z Z Z Z ⟨BX.refl _ _, Z⟩)
   ·
    intro w47 D hS35 hd35
    exact dg_sub (E' := [(15, undef), (17, undef), (19, undef), (11, (.bool false))]) ⟨(dpE hd35 10 Z Z), (dpE hd35 12 Z Z), (dpE hd35 14 Z Z), (dpE hd35 6 Z Z), trivial⟩ (dg_off Z Z Z Z ⟨BX.refl _ _, Z⟩)
   ·
    intro w48 D hS36 hd36
    exact dg_sub (E' := [(11, (.bool false)), (2, (.pointer (some p1)))]) ⟨(dpE hd36 6 Z Z), Z, trivial⟩ (dg_off Z Z Z Z ⟨BX.refl _ _, Z⟩)
   ·
    intro w49 D hS37 hd37
    exact dg_sub (E' := [(21, undef), (11, (.bool false))]) ⟨(dpE hd37 16 Z Z), (dpE hd37 6 Z Z), trivial⟩ (dg_off Z Z Z Z ⟨BX.refl _ _, Z⟩)
   ·
    intro w50 D hS38 hd38
    have hC50 := hC2.no hS38
    refine lw_sub (E' := [(11, (.bool false)), (20, undef), (22, undef), (2, (.pointer (some p1))), (3, (.pointer (some p2))), (4, (.bool false))]) ⟨(dpE hd38 6 Z Z), (dpE hd38 15 Z Z), (dpE hd38 17 Z Z), Z, Z, Z, trivial⟩ (lw_off Z Z Z Z Z Z (lw_op Z Z Z (ow_pickF Z Z Z (lw_op Z Z Z (ow_assign Z Z (lw_nil (ew_then (cw_ret ?_))))))))
    obtain rfl := Option.some.inj h
    exact ew_ret (res1 Z (.tmp Z)) ⟨_, Z, ((vbool _)), hC50.bx⟩
 ·
  subst hc1
  have lz3 := (hl1.trans hl2)
  refine cw_sub (E' := [(2, (.pointer (some p1))), (3, (.pointer (some p2))), (4, (.bool false))]) ⟨Z, Z, Z, trivial⟩ (cw_drawQ 18 [PV RTest M a_t, PEq (.bool false), PEq (.bool false), PEq undef, PEq undef, PEq (.bool false), PEq (.bool false), PEq undef, PEq undef, PEq undef, PEq undef, PEq undef, PEq undef, PEq undef, PEq undef, PEq undef, PEq undef, PEq undef] (by kernel_rfl) Z (by kernel_rfl) ⟨PV.mono _ _ _, PEq.mono _, PEq.mono _, PEq.mono _, PEq.mono _, PEq.mono _, PEq.mono _, PEq.mono _, PEq.mono _, PEq.mono _, PEq.mono _, PEq.mono _, PEq.mono _, PEq.mono _, PEq.mono _, PEq.mono _, PEq.mono _, PEq.mono _, trivial⟩ ⟨?_, ?_, ?_, ?_, ?_, ?_, ?_, ?_, ?_, ?_, ?_, ?_, ?_, ?_, ?_, ?_, ?_, ?_, trivial⟩ ?_)
  ·
   intro w51 D hS39 hd39
   have hl51 := Le.no M hS39
   exact dg_sub (E' := [(2, (.pointer (some p1)))]) ⟨Z, trivial⟩ (dg_plain Z (ow_load (R := RTest) Z Z (ARep.mono (hl2.trans hl51) hp1) (Tryd.sizeOf128 _) (Tryd.isAgg128 _) fun v32 hv32 => ⟨BX.refl _ _, hv32⟩))
  ·
   intro w52 D hS40 hd40
   have hl52 := Le.no M hS40
   have hC52 := hC2.no hS40
   have d103 : PV RTest M a_t (D 0) w52 := dpA hd40 0 Z
   generalize hq10 : (D 0) = v33 at d103
   refine dg_sub (E' := [(5, v33)]) ⟨(congrArg some hq10), trivial⟩ (dg_plain Z (ow_call Z Z Tryd.call157 (w_spec_TestValid (hG.mono (lz3.trans hl52)) hC52.old d103 hx1) fun v34 w53 hv34 => ?_))
   obtain ⟨hv34, hb13⟩ := hv34
   obtain rfl := vbool_eq hv34
   exact ⟨hb13, Z⟩
  ·
   intro w54 D hS41 hd41
   exact dg_sub (E' := [(6, (.bool false))]) ⟨(dpE hd41 1 Z Z), trivial⟩ (dg_plain Z (ow_move Z Z ⟨BX.refl _ _, Z⟩))
  ·
   intro w55 D hS42 hd42
   exact dg_sub (E' := [(7, (.bool false)), (3, (.pointer (some p2)))]) ⟨(dpE hd42 2 Z Z), Z, trivial⟩ (dg_off Z Z Z Z ⟨BX.refl _ _, Z⟩)
  ·
   intro w56 D hS43 hd43
   exact dg_sub (E' := [(8, undef), (7, (.bool false))]) ⟨(dpE hd43 3 Z Z), (dpE hd43 2 Z Z), trivial⟩ (dg_off Z Z Z Z ⟨BX.refl _ _, Z⟩)
  ·
   intro w57 D hS44 hd44
   exact dg_sub (E' := [(7, (.bool false)), (9, undef)]) ⟨(dpE hd44 2 Z Z), (dpE hd44 4 Z Z), trivial⟩ (dg_plain Z (ow_pickF Z Z Z ⟨BX.refl _ _, Z⟩))
  ·
   intro w58 D hS45 hd45
   exact dg_sub (E' := [(10, (.bool false))]) ⟨(dpE hd45 5 Z Z), trivial⟩ (dg_plain Z (ow_move Z Z ⟨BX.refl _ _, Z⟩))
  ·
   intro w59 D hS46 hd46
   exact dg_sub (E' := [(11, (.bool false)), (3, (.pointer (some p2)))]) ⟨(dpE hd46 6 Z Z), Z, trivial⟩ (dg_off Z Z Z Z ⟨BX.refl _ _, Z⟩)
  ·
   intro w60 D hS47 hd47
   exact dg_sub (E' := [(11, (.bool false)), (2, (.pointer (some p1)))]) ⟨(dpE hd47 6 Z Z), Z, trivial⟩ (dg_off Z Z Z Z ⟨BX.refl _ _, Z⟩)
  ·
   intro w61 D hS48 hd48
   exact dg_sub (E' := [(13, undef), (11, (.bool false))]) ⟨(dpE hd48 8 Z Z), (dpE hd48 6 Z Z), trivial⟩ (dg_off Z Z Z Z ⟨BX.refl _ _, Z⟩)
  ·
   intro w62 D hS49 hd49
   exact dg_sub (E' := [(12, undef), (14, undef), (11, (.bool false))]) ⟨(dpE hd49 7 Z Z), (dpE hd49 9 Z Z), (dpE hd49 6 Z Z), trivial⟩ (dg_off Z Z Z Z ⟨BX.refl _ _, Z⟩)
  ·
   intro w63 D hS50 hd50
   exact dg_sub (E' := [(11, (.bool false)), (2, (.pointer (some p1)))]) ⟨(dpE hd50 6 Z Z), Z, trivial⟩ (dg_off Z Z Z Z ⟨BX.refl _ _, Z⟩)
  ·
   intro w64 D hS51 hd51
   exact dg_sub (E' := [(16, undef), (11, (.bool false))]) ⟨(dpE hd51 11 Z Z), (dpE hd51 6 Z Z), trivial⟩ (dg_off Z Z Z Z ⟨BX.refl _ _, Z⟩)
  ·
   intro w65 D hS52 hd52
   exact dg_sub (E' := [(11, (.bool false)), (2, (.pointer (some p1)))]) ⟨(dpE hd52 6 Z Z), Z, trivial⟩ (dg_off Z Z Z Z ⟨BX.refl _ _, Z⟩)
  ·
   intro w66 D hS53 hd53
   exact dg_sub (E' := [(18, undef), (11, (.bool false))]) ⟨(dpE hd53 13 Z Z), (dpE hd53 6 Z Z), trivial⟩ (dg_off Z Z Z Z ⟨BX.refl _ _, Z⟩)
  ·
   intro w67 D hS54 hd54
   exact dg_sub (E' := [(15, undef), (17, undef), (19, undef), (11, (.bool false))]) ⟨(dpE hd54 10 Z Z), (dpE hd54 12 Z Z), (dpE hd54 14 Z Z), (dpE hd54 6 Z Z), trivial⟩ (dg_off Z Z Z Z ⟨BX.refl _ _, Z⟩)
  ·
   intro w68 D hS55 hd55
   exact dg_sub (E' := [(11, (.bool false)), (2, (.pointer (some p1)))]) ⟨(dpE hd55 6 Z Z), Z, trivial⟩ (dg_off Z Z Z Z ⟨BX.refl _ _, Z⟩)
  ·
   intro w69 D hS56 hd56
   exact dg_sub (E' := [(21, undef), (11, (.bool false))]) ⟨(dpE hd56 16 Z Z), (dpE hd56 6 Z Z), trivial⟩ (dg_off Z Z Z Z ⟨BX.refl _ _, Z⟩)
  ·
   intro w70 D hS57 hd57
   have hC70 := hC2.no hS57
   refine lw_sub (E' := [(11, (.bool false)), (20, undef), (22, undef), (2, (.pointer (some p1))), (3, (.pointer (some p2))), (4, (.bool false))]) ⟨(dpE hd57 6 Z Z), (dpE hd57 15 Z Z), (dpE hd57 17 Z Z), Z, Z, Z, trivial⟩ (lw_off Z Z Z Z Z Z (lw_op Z Z Z (ow_pickF Z Z Z (lw_op Z Z Z (ow_assign Z Z (lw_nil (ew_then (cw_ret ?_))))))))
   obtain rfl := Option.some.inj h
   exact ew_ret (res1 Z (.tmp Z)) ⟨_, Z, ((vbool _)), hC70.bx⟩

theorem w_spec_TestsHold {w : World} {M : Nat → Prop} (hG : ARep (RArr 4 RShape) w M shapes ⟨0, 0, none⟩) (hO : ∀ b, M b → b < w.heap.size) {v0p : Value} {a_list : List Test} (h0 : VRep (RSlice RTest) w M a_list v0p) {v1p : Value} {a_p : Packet} (h1 : VRep RPacket w M a_p v1p) {r : Bool} (h : F.spec_TestsHold a_list a_p = some r) :
  Calls Tryd.prog 145 [v0p, v1p].toArray w fun e w' => ∃ v, e = .returned v ∧ VRep RBool w' M r v ∧ BX No w w' := by
 have hC : Cx No w M w M := Cx.start hO (fun _ e => e.elim)
 refine walk (N := 25) Tryd.func145 Z Tryd.ntmps145 Z (cw_seq (cw_region (lw_op Z Z Z (ow_box (R := RPacket) Z Z h1 hC fun p1 w1 hp1 hb1 hl1 hC1 => lw_op Z Z Z (ow_assign Z Z (lw_nil (ew_then (cw_seq (cw_seq (cw_region (lw_op Z Z Z (ow_assign Z Z (lw_nil (ew_then ?_))))))))))))))
 replace h := bind_some h
 obtain ⟨lr1, hlr1, h⟩ := h
 refine cw_for hlr1 (fun s a w' => ∃ (M' : Nat → Prop), Fits 25 [(0, v0p), (3, (.pointer (some p1))), (5, (.int .i64 s))] a ∧ Le w1 M w' M' ∧ Cx No w M w' M') ?_ ?_ ?_
 ·
  intro a ha
  exact ⟨M, ha.sub ⟨Z, Z, Z, trivial⟩, Le.refl _ _, hC1⟩
 ·
  rintro k1 a w2 sr1 ⟨M1, hF1, hl2, hC2⟩ hb2 hR1
  refine cw_at (E := [(0, v0p), (3, (.pointer (some p1))), (5, (.int .i64 k1))]) hF1 (cw_seq (cw_seq (cw_region (lw_op Z Z Z (ow_move Z Z (lw_op Z Z Z (ow_move Z Z (lw_op Z Z Z (ow_len Z Z (VRep.mono (hl1.trans hl2) h0) Tryd.underlying36 Z (lw_op Z Z Z (ow_lss Z Z Z fun bb1 hbb1 => lw_nil (ew_then ?_))))))))))))
  replace hb2 := cond_some hb2
  rcases hb2 with ⟨hc1, hb2⟩ | ⟨hc1, hb2⟩
  ·
   obtain rfl := hbb1.trans hc1
   refine cw_true Z (cw_skip (ew_then (cw_seq (cw_block (cw_seq ?_)))))
   replace hb2 := bind_some hb2
   obtain ⟨x1, hx1, hb2⟩ := hb2
   have lz1 := (hl1.trans hl2)
   refine cw_sub (E' := [(0, v0p), (3, (.pointer (some p1))), (5, (.int .i64 k1))]) ⟨Z, Z, Z, trivial⟩ (cw_drawQ 5 [PV (RSlice RTest) M1 a_list, PEq (.int .i64 k1), PA RTest M1 x1, PV RTest M1 x1, PV RPacket M1 a_p] (by kernel_rfl) Z (by kernel_rfl) ⟨PV.mono _ _ _, PEq.mono _, PA.mono _ _ _, PV.mono _ _ _, PV.mono _ _ _, trivial⟩ ⟨?_, ?_, ?_, ?_, ?_, trivial⟩ ?_)
   ·
    intro w3 D hS1 hd1
    have hl3 := Le.no M1 hS1
    exact dg_sub (E' := [(0, v0p)]) ⟨Z, trivial⟩ (dg_plain Z (ow_move Z Z ⟨BX.refl _ _, (VRep.mono (lz1.trans hl3) h0)⟩))
   ·
    intro w4 D hS2 hd2
    exact dg_sub (E' := [(5, (.int .i64 k1))]) ⟨Z, trivial⟩ (dg_plain Z (ow_move Z Z ⟨BX.refl _ _, Z⟩))
   ·
    intro w5 D hS3 hd3
    have d1 : PV (RSlice RTest) M1 a_list (D 0) w5 := dpA hd3 0 Z
    generalize hq1 : (D 0) = v4 at d1
    exact dg_sub (E' := [(12, v4), (13, (.int .i64 k1))]) ⟨(congrArg some hq1), (dpE hd3 1 Z Z), trivial⟩ (dg_plain Z (ow_indexSlice (R := RTest) Z Z Z d1 Tryd.underlying36 (Tryd.sizeOf128 _) hx1 fun p3 hp3 => ⟨BX.refl _ _, ⟨_, Z, hp3⟩⟩))
   ·
    intro w6 D hS4 hd4
    have d3 : PA RTest M1 x1 (D 2) w6 := dpA hd4 2 Z
    obtain ⟨p4, e1, ha1⟩ := d3
    exact dg_sub (E' := [(14, (.pointer (some p4)))]) ⟨(congrArg some e1), trivial⟩ (dg_plain Z (ow_load (R := RTest) Z Z ha1 (Tryd.sizeOf128 _) (Tryd.isAgg128 _) fun v5 hv5 => ⟨BX.refl _ _, hv5⟩))
   ·
    intro w7 D hS5 hd5
    have hl7 := Le.no M1 hS5
    exact dg_sub (E' := [(3, (.pointer (some p1)))]) ⟨Z, trivial⟩ (dg_plain Z (ow_load (R := RPacket) Z Z (ARep.mono (hl2.trans hl7) hp1) (Tryd.sizeOf27 _) (Tryd.isAgg27 _) fun v6 hv6 => ⟨BX.refl _ _, hv6⟩))
   ·
    intro w8 D hS6 hd6
    have d7 : PV RTest M1 x1 (D 3) w8 := dpA hd6 3 Z
    have d8 : PV RPacket M1 a_p (D 4) w8 := dpA hd6 4 Z
    have hl8 := Le.no M1 hS6
    have hC8 := hC2.no hS6
    generalize hq2 : (D 3) = v7 at d7
    generalize hq3 : (D 4) = v8 at d8
    refine lw_sub (E' := [(15, v7), (16, v8), (0, v0p), (3, (.pointer (some p1))), (5, (.int .i64 k1))]) ⟨(congrArg some hq2), (congrArg some hq3), Z, Z, Z, trivial⟩ ?_
    replace hb2 := bind_some hb2
    obtain ⟨x2, hx2, hb2⟩ := hb2
    refine lw_op Z Z Z (ow_call Z Z Tryd.call176 (w_spec_TestHolds (hG.mono (lz1.trans hl8)) hC8.old d7 d8 hx2) fun v9 w9 hv9 => ?_)
    obtain ⟨hv9, hb3⟩ := hv9
    have hl9 := Le.no M1 hb3
    have hC9 := hC8.no hb3
    obtain rfl := vbool_eq hv9
    refine lw_op Z Z Z (ow_not Z Z (lw_nil (ew_then ?_)))
    replace hb2 := cond_some hb2
    rcases hb2 with ⟨hc2, hb2⟩ | ⟨hc2, hb2⟩
    ·
     subst hc2
     refine cw_false Z (cw_skip (ew_blockN (ew_then (cw_region (lw_op Z Z Z (ow_move Z Z (lw_op Z Z Z (ow_add Z Z Z (lw_op Z Z Z (ow_assign Z Z (lw_nil ?_)))))))))))
     have lz2 := ((hl2.trans hl8).trans hl9)
     exact ew_nxt (W (k1 + 1)) hb2 fun a ha => ⟨M1, (ha.sub ⟨Z, Z, Z, trivial⟩), lz2, hC9⟩
    ·
     subst hc2
     refine cw_true Z (cw_seq (cw_region (lw_op Z Z Z (ow_assign Z Z (lw_nil (ew_then (cw_ret (ew_blockR (ew_thenR (ew_thenR (ew_blockR (ew_brkR (ew_thenR ?_)))))))))))))
     have e2 := hR1 _ (Option.some.inj hb2).symm
     subst e2
     obtain rfl := Option.some.inj h
     exact ew_ret (res1 Z (.tmp Z)) ⟨_, Z, ((vbool _)), hC9.bx⟩
  ·
   obtain rfl := hbb1.trans hc1
   exact cw_false Z (cw_exit (ew_thenX (ew_thenX (ew_blockX (ew_brk k1 hb2 fun a ha => ⟨M1, (ha.sub ⟨Z, Z, Z, trivial⟩), hl2, hC2⟩)))))
 ·
  rintro k2 a w10 hlr2 ⟨M2, hF2, hl10, hC10⟩
  subst hlr2
  refine ew_at (E := [(0, v0p), (3, (.pointer (some p1))), (5, (.int .i64 k2))]) hF2 (ew_then (cw_seq (cw_region (lw_op Z Z Z (ow_move Z Z ?_)))))
  replace h := bind_some h
  obtain ⟨x3, hx3, h⟩ := h
  refine lw_op Z Z Z (ow_call Z Z Tryd.call101 (w_spec_TestsValid (hG.mono (hl1.trans hl10)) hC10.old (VRep.mono (hl1.trans hl10) h0) hx3) fun v11 w11 hv11 => ?_)
  obtain ⟨hv11, hb4⟩ := hv11
  have hl11 := Le.no M2 hb4
  have hC11 := hC10.no hb4
  obtain rfl := vbool_eq hv11
  refine lw_op Z Z Z (ow_move Z Z ?_)
  replace h := cond_some h
  rcases h with ⟨hc3, h⟩ | ⟨hc3, h⟩
  ·
   subst hc3
   refine lw_on Z Z Z Z Z Z (ow_load (R := RPacket) Z Z (ARep.mono (hl10.trans hl11) hp1) (Tryd.sizeOf27 _) (Tryd.isAgg27 _) fun v12 hv12 => ?_)
   replace h := bind_some h
   obtain ⟨x4, hx4, h⟩ := h
   have lz3 := ((hl1.trans hl10).trans hl11)
   refine lw_on Z Z Z Z Z Z (ow_call Z Z Tryd.call81 (w_spec_PacketValid (hG.mono lz3) hC11.old hv12 hx4) fun v13 w12 hv13 => ?_)
   obtain ⟨hv13, hb5⟩ := hv13
   have hC12 := hC11.no hb5
   obtain rfl := vbool_eq hv13
   refine lw_op Z Z Z (ow_pickT Z Z Z (lw_op Z Z Z (ow_assign Z Z (lw_nil (ew_then (cw_ret ?_))))))
   obtain rfl := Option.some.inj h
   exact ew_ret (res1 Z (.tmp Z)) ⟨_, Z, ((vbool _)), hC12.bx⟩
  ·
   subst hc3
   refine lw_off Z Z Z Z Z Z (lw_off Z Z Z Z Z Z (lw_op Z Z Z (ow_pickF Z Z Z (lw_op Z Z Z (ow_assign Z Z (lw_nil (ew_then (cw_ret ?_))))))))
   obtain rfl := Option.some.inj h
   exact ew_ret (res1 Z (.tmp Z)) ⟨_, Z, ((vbool _)), hC11.bx⟩

theorem w_spec_l9Walk (n_ : Nat) : ∀ {w : World} {M : Nat → Prop} (hG : ARep (RArr 4 RShape) w M shapes ⟨0, 0, none⟩) (hO : ∀ b, M b → b < w.heap.size) {v0p : Value} {a_s : Ruleset} (h0 : VRep RRuleset w M a_s v0p) {a_chain : Int} {v2p : Value} {a_p : Packet} (h2 : VRep RPacket w M a_p v2p) {vs0 : Value} {a_0c : List Visit} (hr0p : OwnRow RVisit 0 171 w M a_0c vs0) {g : Nat} (hown : Own w g 86 #[vs0]) (hgM : M g) {r : Int × (List Visit)} (h : F.spec_l9Walk n_ a_s a_chain a_p a_0c = some r),
  Calls Tryd.prog 82 [v0p, (.int .i64 a_chain), v2p, (.pointer (some ⟨g, 0, none⟩))].toArray w fun e w' => ∃ v, e = .returned v ∧ VRep RInt w' M r.1 v ∧ ∃ (M' : Nat → Prop) (u0 : Value), Own w' g 86 #[u0] ∧ OwnRow RVisit 0 171 w' M' r.2 u0 ∧ Cx (fun b => b = g ∨ vs0.ownBlock = some b) w M w' M' ∧ (∀ b, u0.ownBlock = some b → w.heap.size ≤ b ∨ (fun b => b = g ∨ vs0.ownBlock = some b) b) := by
 induction n_ with
 | zero =>
  intro w M hG hO v0p a_s h0 a_chain v2p a_p h2 vs0 a_0c hr0p g hown hgM r h
  exact (Option.some_ne_none _ (show (none : Option (Int × (List Visit))) = some r from h).symm).elim
 | succ n_ ih =>
 intro w M hG hO v0p a_s h0 a_chain v2p a_p h2 vs0 a_0c hr0p g hown hgM r h
 obtain ⟨i171, hi171, hz171, hs171, hy171⟩ := info171
 have hX : ∀ b, (fun b => b = g ∨ vs0.ownBlock = some b) b → M b := fun b e => (e.elim (fun e => by rw [show b = g from e]; exact hgM) (fun e => (hr0p.mem b e)))
 have hC : Cx (fun b => b = g ∨ vs0.ownBlock = some b) w M w M := Cx.start hO hX
 have hge0p : ∀ b, vs0.ownBlock = some b → w.heap.size ≤ b ∨ (fun b => b = g ∨ vs0.ownBlock = some b) b := fun b e => .inr (.inr e)
 refine walk (N := 70) Tryd.func82 Z Tryd.ntmps82 Z (cw_seq (cw_region (lw_op Z Z Z (ow_box (R := RRuleset) Z Z h0 hC fun p1 w1 hp1 hb1 hl1 hC1 => ?_))))
 have ho1 := hown.no hb1
 have hr1 := hr0p.no hb1
 refine lw_op Z Z Z (ow_box (R := RPacket) Z Z (VRep.mono hl1 h2) hC1 fun p2 w2 hp2 hb2 hl2 hC2 => ?_)
 have ho2 := ho1.no hb2
 have hr2 := hr1.no hb2
 refine lw_op Z Z Z (ow_assign Z Z (lw_nil (ew_then (cw_seq (cw_seq (cw_region (lw_op Z Z Z (ow_assign Z Z (lw_nil (ew_then ?_))))))))))
 replace h := bind_some h
 obtain ⟨lr1, hlr1, h⟩ := h
 refine cw_for hlr1 (fun s a w' => ∃ (M' : Nat → Prop) (v1c : Value), Fits 70 [(1, (.int .i64 a_chain)), (3, (.pointer (some ⟨g, 0, none⟩))), (4, (.pointer (some p1))), (6, (.pointer (some p2))), (9, (.int .i64 s.1))] a ∧ Le w2 M w' M' ∧ Cx (fun b => b = g ∨ vs0.ownBlock = some b) w M w' M' ∧ OwnRow RVisit 0 171 w' M' s.2 v1c ∧ Own w' g 86 #[v1c] ∧ M' g ∧ (∀ b, (Value.ownBlock v1c) = some b → w.heap.size ≤ b ∨ (fun b => b = g ∨ vs0.ownBlock = some b) b)) ?_ ?_ ?_
 ·
  intro a ha
  exact ⟨M, vs0, ha.sub ⟨Z, Z, Z, Z, Z, trivial⟩, Le.refl _ _, hC2, hr2, ho2, hgM, hge0p⟩
 ·
  rintro ⟨k1, y1⟩ a w3 sr1 ⟨M1, v2, hF1, hl3, hC3, hw1, ho3, hm1, hge1⟩ hb3 hR1
  refine cw_at (E := [(1, (.int .i64 a_chain)), (3, (.pointer (some ⟨g, 0, none⟩))), (4, (.pointer (some p1))), (6, (.pointer (some p2))), (9, (.int .i64 k1))]) hF1 (cw_seq (cw_seq (cw_region (lw_op Z Z Z (ow_move Z Z (lw_op Z Z Z (ow_fieldAddr Z Z Tryd.underlying25 Z (Tryd.sizeOf23 _) (lw_op Z Z Z (ow_load (R := (RSlice (RSlice RRule))) Z Z (ARep.mono (hl2.trans hl3) (hp1.fld fld_Ruleset_Chains)) (Tryd.sizeOf23 _) (Tryd.isAgg23 _) fun v3 hv3 => lw_op Z Z Z (ow_move Z Z ?_))))))))))
  replace hb3 := bind_some hb3
  obtain ⟨x1, hx1, hb3⟩ := hb3
  refine lw_op Z Z Z (ow_indexSlice (R := (RSlice RRule)) Z Z Z hv3 Tryd.underlying23 (Tryd.sizeOf39 _) hx1 fun p3 hp3 => lw_op Z Z Z (ow_load (R := (RSlice RRule)) Z Z hp3 (Tryd.sizeOf39 _) (Tryd.isAgg39 _) fun v4 hv4 => lw_op Z Z Z (ow_len Z Z hv4 Tryd.underlying39 Z (lw_op Z Z Z (ow_lss Z Z Z fun bb1 hbb1 => lw_nil (ew_then ?_))))))
  replace hb3 := cond_some hb3
  rcases hb3 with ⟨hc1, hb3⟩ | ⟨hc1, hb3⟩
  ·
   obtain rfl := hbb1.trans hc1
   refine cw_true Z (cw_skip (ew_then (cw_seq (cw_block (cw_seq (cw_region (lw_op Z Z Z (ow_fieldAddr Z Z Tryd.underlying25 Z (Tryd.sizeOf23 _) (lw_op Z Z Z (ow_load (R := (RSlice (RSlice RRule))) Z Z (ARep.mono (hl2.trans hl3) (hp1.fld fld_Ruleset_Chains)) (Tryd.sizeOf23 _) (Tryd.isAgg23 _) fun v5 hv5 => lw_op Z Z Z (ow_move Z Z (lw_op Z Z Z (ow_indexSlice (R := (RSlice RRule)) Z Z Z hv5 Tryd.underlying23 (Tryd.sizeOf39 _) hx1 fun p4 hp4 => lw_op Z Z Z (ow_load (R := (RSlice RRule)) Z Z hp4 (Tryd.sizeOf39 _) (Tryd.isAgg39 _) fun v6 hv6 => lw_op Z Z Z (ow_move Z Z ?_)))))))))))))))
   replace hb3 := bind_some hb3
   obtain ⟨x2, hx2, hb3⟩ := hb3
   refine lw_op Z Z Z (ow_indexSlice (R := RRule) Z Z Z hv6 Tryd.underlying39 (Tryd.sizeOf38 _) hx2 fun p5 hp5 => lw_op Z Z Z (ow_load (R := RRule) Z Z hp5 (Tryd.sizeOf38 _) (Tryd.isAgg38 _) fun v7 hv7 => lw_allocStore (R := RRule) Z Z Z Z Z Z Z Tryd.zeroValue38 Tryd.sizeOf38 Z Z Z (by simp) hv7 hC3 fun p6 w4 hp6 hb4 hl4 hC4 => ?_))
   have ho4 := ho3.no hb4
   have hr3 := hw1.no hb4
   refine lw_nil (ew_then (cw_seq (cw_seq (cw_region (lw_op Z Z Z (ow_fieldAddr Z Z Tryd.underlying38 Z (Tryd.sizeOf36 _) (lw_op Z Z Z (ow_load (R := (RSlice RTest)) Z Z (hp6.fld fld_Rule_Tests) (Tryd.sizeOf36 _) (Tryd.isAgg36 _) fun v8 hv8 => lw_op Z Z Z (ow_load (R := RPacket) Z Z (ARep.mono (hl3.trans hl4) hp2) (Tryd.sizeOf27 _) (Tryd.isAgg27 _) fun v9 hv9 => ?_)))))))))
   replace hb3 := bind_some hb3
   obtain ⟨x3, hx3, hb3⟩ := hb3
   have lz1 := (((hl1.trans hl2).trans hl3).trans hl4)
   refine lw_op Z Z Z (ow_call Z Z Tryd.call145 (w_spec_TestsHold (hG.mono lz1) hC4.old hv8 hv9 hx3) fun v10 w5 hv10 => ?_)
   obtain ⟨hv10, hb5⟩ := hv10
   have hl5 := Le.no M1 hb5
   have hC5 := hC4.no hb5
   have ho5 := ho4.no hb5
   have hr4 := hr3.no hb5
   obtain rfl := vbool_eq hv10
   refine lw_op Z Z Z (ow_not Z Z (lw_nil (ew_then ?_)))
   replace hb3 := cond_some hb3
   rcases hb3 with ⟨hc2, hb3⟩ | ⟨hc2, hb3⟩
   ·
    subst hc2
    refine cw_false Z (cw_skip (ew_then (cw_seq (cw_seq (cw_region (lw_op Z Z Z (ow_move Z Z (lw_op Z Z Z (ow_nilCheck Z Z (lw_op Z Z Z (ow_loadOwn1 Z Z Z ho5 (Tryd.isAgg86 _) Z (lw_op Z Z Z (ow_lenOwn Z Z hr4 Tryd.underlying86 (lw_op Z Z Z (ow_lss Z Z Z fun bb2 hbb2 => lw_nil (ew_then ?_))))))))))))))))
    replace hb3 := cond_some hb3
    rcases hb3 with ⟨hc3, hb3⟩ | ⟨hc3, hb3⟩
    ·
     obtain rfl := hbb2.trans hc3
     refine cw_true Z (cw_region (lw_op Z Z Z (ow_move Z Z (lw_op Z Z Z (ow_move Z Z (lw_op Z Z Z (ow_nilCheck Z Z (lw_op Z Z Z (ow_loadOwn1 Z Z Z ho5 (Tryd.isAgg86 _) Z (lw_op Z Z Z (ow_move Z Z (lw_op Z Z Z (ow_move Z Z (lw_op Z Z Z (ow_build (v := .agg #[(.int .i64 a_chain), (.int .i64 k1)]) Z Z (by kernel_rfl) ?_)))))))))))))))
     have hw2 : VRep RVisit w5 M1 ({ Chain := a_chain, Place := k1 } : Visit) (.agg #[(.int .i64 a_chain), (.int .i64 k1)]) := shut_Visit
     refine lw_op Z Z Z (ow_buildSlice (R := RVisit) (xs := [({ Chain := a_chain, Place := k1 } : Visit)]) (cs := #[(.int .i64 a_chain), (.int .i64 k1)]) (e := 171) Z Z (by kernel_rfl) Z Z ⟨_, _, Z, hw2.cells, Z⟩ hC5 fun p7 w6 hw3 hb6 hl6 hC6 => ?_)
     have ho6 := ho5.no hb6
     have hr5 := hr4.no hb6
     replace hb3 := bind_some hb3
     obtain ⟨z1, hz1, hb3⟩ := hb3
     refine lw_op Z Z Z (ow_appendX (R := RVisit) (B := 0) Z Z Z Z Tryd.underlying86 hi171 hz171 hs171 hy171 Z Z Z Z hr5 hw3 hz1 hC6 (Nat.zero_le _) hge1 fun v11 w7 M2 hr6 hb7 hl7 hC7 hM1 hat1 => ?_)
     have ho7 := ho6.go hb7 (fun e => (orow_ne hr5 ho6 (by decide)) e)
     have hm2 := hM1 _ hm1
     have hge2 := ge_app hge1 hat1 hC6
     refine lw_op Z Z Z (ow_nilCheck Z Z ?_)
     obtain ⟨A1, c1, rfl⟩ := hr6.len
     refine lw_op0 Z Z (ow_store (X := (fun b => b = g ∨ vs0.ownBlock = some b)) (us := [(.slice A1 z1.length c1)]) (cs' := #[(.slice A1 z1.length c1)]) Z Z Z Z ho7 (Tryd.sizeOf86 _) Z Z Z Z hm2 (.inr (.inl Z)) Z hC7 fun w8 ho8 hb8 hl8 hC8 => ?_)
     have hr7 := hr6.go hb8 (fun k hk e => (orow_ne hr6 ho7 (by decide)) (hk.trans (congrArg some e))) hl8 (fun _ h => h)
     refine lw_nil (ew_then (cw_seq (cw_region (lw_op Z Z Z (ow_fieldAddr Z Z Tryd.underlying38 Z (Tryd.sizeOf3 _) ?_)))))
     have lz2 := (((hl5.trans hl6).trans hl7).trans hl8)
     refine lw_op Z Z Z (ow_load (R := RInt) Z Z (ARep.mono lz2 (hp6.fld fld_Rule_Action)) (Tryd.sizeOf3 _) (Tryd.isAgg3 _) fun v12 hv12 => ?_)
     obtain rfl := vint_eq hv12
     refine lw_nil (ew_then (cw_block (cw_seq (cw_seq (cw_region (lw_op Z Z Z (ow_eqlI Z Z Z fun bb3 hbb3 => lw_op Z Z Z (ow_assign Z Z (lw_nil (ew_then ?_))))))))))
     replace hb3 := cond_some hb3
     rcases hb3 with ⟨hc4, hb3⟩ | ⟨hc4, hb3⟩
     ·
      obtain rfl := hbb3.trans hc4
      refine cw_true Z (cw_skip (ew_then (cw_true Z (cw_seq (cw_region (lw_op Z Z Z (ow_fieldAddr Z Z Tryd.underlying38 Z (Tryd.sizeOf3 _) (lw_op Z Z Z (ow_load (R := RInt) Z Z (ARep.mono lz2 (hp6.fld fld_Rule_Action)) (Tryd.sizeOf3 _) (Tryd.isAgg3 _) fun v13 hv13 => ?_)))))))))
      obtain rfl := vint_eq hv13
      refine lw_op Z Z Z (ow_assign Z Z (lw_nil (ew_then (cw_ret (ew_blockR (ew_blockR (ew_thenR (ew_thenR (ew_blockR (ew_brkR (ew_thenR ?_)))))))))))
      have e1 := hR1 _ (Option.some.inj hb3).symm
      subst e1
      obtain rfl := Option.some.inj h
      exact ew_ret (res1 Z (.tmp Z)) ⟨_, Z, ((vint _)), M2, (.slice A1 z1.length c1), ho8, hr7, hC8, hge2⟩
     ·
      obtain rfl := hbb3.trans hc4
      refine cw_false Z (cw_region (lw_op Z Z Z (ow_eqlI Z Z Z fun bb4 hbb4 => lw_op Z Z Z (ow_assign Z Z (lw_nil (ew_then ?_))))))
      replace hb3 := cond_some hb3
      rcases hb3 with ⟨hc5, hb3⟩ | ⟨hc5, hb3⟩
      ·
       obtain rfl := hbb4.trans hc5
       refine cw_true Z (cw_seq (cw_region (lw_op Z Z Z (ow_fieldAddr Z Z Tryd.underlying38 Z (Tryd.sizeOf3 _) (lw_op Z Z Z (ow_load (R := RInt) Z Z (ARep.mono lz2 (hp6.fld fld_Rule_Action)) (Tryd.sizeOf3 _) (Tryd.isAgg3 _) fun v14 hv14 => ?_))))))
       obtain rfl := vint_eq hv14
       refine lw_op Z Z Z (ow_assign Z Z (lw_nil (ew_then (cw_ret (ew_blockR (ew_blockR (ew_thenR (ew_thenR (ew_blockR (ew_brkR (ew_thenR ?_)))))))))))
       have e2 := hR1 _ (Option.some.inj hb3).symm
       subst e2
       obtain rfl := Option.some.inj h
       exact ew_ret (res1 Z (.tmp Z)) ⟨_, Z, ((vint _)), M2, (.slice A1 z1.length c1), ho8, hr7, hC8, hge2⟩
      ·
       obtain rfl := hbb4.trans hc5
       refine cw_false Z (cw_seq (cw_region (lw_op Z Z Z (ow_eqlI Z Z Z fun bb5 hbb5 => lw_op Z Z Z (ow_assign Z Z (lw_nil (ew_then ?_)))))))
       replace hb3 := cond_some hb3
       rcases hb3 with ⟨hc6, hb3⟩ | ⟨hc6, hb3⟩
       ·
        obtain rfl := hbb5.trans hc6
        refine cw_true Z (cw_seq (cw_region (lw_op Z Z Z (ow_assign Z Z (lw_nil (ew_then (cw_ret (ew_blockR (ew_blockR (ew_thenR (ew_thenR (ew_blockR (ew_brkR (ew_thenR ?_))))))))))))))
        have e3 := hR1 _ (Option.some.inj hb3).symm
        subst e3
        obtain rfl := Option.some.inj h
        exact ew_ret (res1 Z (.tmp Z)) ⟨_, Z, ((vint _)), M2, (.slice A1 z1.length c1), ho8, hr7, hC8, hge2⟩
       ·
        obtain rfl := hbb5.trans hc6
        refine cw_false Z (cw_seq (cw_region (lw_op Z Z Z (ow_eqlI Z Z Z fun bb6 hbb6 => lw_op Z Z Z (ow_assign Z Z (lw_nil (ew_then ?_)))))))
        replace hb3 := cond_some hb3
        rcases hb3 with ⟨hc7, hb3⟩ | ⟨hc7, hb3⟩
        ·
         obtain rfl := hbb6.trans hc7
         refine cw_true Z (cw_seq (cw_region ?_))
         have lz3 := ((((((hl2.trans hl3).trans hl4).trans hl5).trans hl6).trans hl7).trans hl8)
         refine lw_op Z Z Z (ow_load (R := RRuleset) Z Z (ARep.mono lz3 hp1) (Tryd.sizeOf25 _) (Tryd.isAgg25 _) fun v15 hv15 => lw_op Z Z Z (ow_fieldAddr Z Z Tryd.underlying38 Z (Tryd.sizeOf3 _) (lw_op Z Z Z (ow_load (R := RInt) Z Z (ARep.mono lz2 (hp6.fld fld_Rule_Chain)) (Tryd.sizeOf3 _) (Tryd.isAgg3 _) fun v16 hv16 => ?_))))
         obtain rfl := vint_eq hv16
         have lz4 := (((((hl3.trans hl4).trans hl5).trans hl6).trans hl7).trans hl8)
         refine lw_op Z Z Z (ow_load (R := RPacket) Z Z (ARep.mono lz4 hp2) (Tryd.sizeOf27 _) (Tryd.isAgg27 _) fun v17 hv17 => lw_op Z Z Z (ow_move Z Z ?_))
         replace hb3 := bind_some hb3
         obtain ⟨x4, hx4, hb3⟩ := hb3
         have lz5 := ((((lz1.trans hl5).trans hl6).trans hl7).trans hl8)
         refine lw_op Z Z Z (ow_call Z Z Tryd.call82 (ih (hG.mono lz5) hC8.old hv15 hv17 (hr7.base (Nat.zero_le _)) ho8 hm2 hx4) fun v18 w9 hv18 => ?_)
         obtain ⟨hw4, M3, v19, ho9, hr8, hk1, hge3⟩ := hv18
         have hY1 : ∀ b, (fun b => b = g ∨ (Value.ownBlock (.slice A1 z1.length c1)) = some b) b → w.heap.size ≤ b ∨ (fun b => b = g ∨ vs0.ownBlock = some b) b := fun b e => (e.elim (fun e => by rw [show b = g from e]; exact (.inr (.inl Z))) (fun e => (hge2 b e)))
         have hl9 := hk1.leY (fun b e => (e.elim (fun e => by rw [show b = g from e]; exact hm2) (fun e => (hr7.mem b e))))
         have hC9 := hC8.trans2 hk1 hY1
         have hge4 : ∀ b, (Value.ownBlock v19) = some b → w.heap.size ≤ b ∨ (fun b => b = g ∨ vs0.ownBlock = some b) b := fun b e => (hge3 b e).elim (fun h => .inl (Nat.le_trans hC8.bx.size h)) (hY1 b)
         have hm3 := hk1.sup _ hm2
         obtain rfl := vint_eq hw4
         refine lw_op Z Z Z (ow_assign Z Z (lw_nil (ew_then (cw_seq (cw_region (lw_op Z Z Z (ow_move Z Z (lw_op Z Z Z (ow_neqI Z Z Z fun bb7 hbb7 => lw_nil (ew_then ?_))))))))))
         replace hb3 := cond_some hb3
         rcases hb3 with ⟨hc8, hb3⟩ | ⟨hc8, hb3⟩
         ·
          obtain rfl := hbb7.trans hc8
          refine cw_true Z (cw_seq (cw_region (lw_op Z Z Z (ow_move Z Z (lw_op Z Z Z (ow_assign Z Z (lw_nil (ew_then (cw_ret (ew_blockR (ew_blockR (ew_thenR (ew_thenR (ew_blockR (ew_brkR (ew_thenR ?_))))))))))))))))
          have e4 := hR1 _ (Option.some.inj hb3).symm
          subst e4
          obtain rfl := Option.some.inj h
          exact ew_ret (res1 Z (.tmp Z)) ⟨_, Z, ((vint _)), M3, v19, ho9, hr8, hC9, hge4⟩
         ·
          obtain rfl := hbb7.trans hc8
          exact cw_false Z (cw_skip (ew_blockN (ew_blockN (ew_then (cw_region (lw_op Z Z Z (ow_move Z Z (lw_op Z Z Z (ow_add Z Z Z (lw_op Z Z Z (ow_assign Z Z (lw_nil (ew_nxt ((W (k1 + 1)), x4.2) hb3 fun a ha => ⟨M3, v19, (ha.sub ⟨Z, Z, Z, Z, Z, trivial⟩), (lz4.trans hl9), hC9, hr8, ho9, hm3, hge4⟩)))))))))))))
        ·
         obtain rfl := hbb6.trans hc7
         refine cw_false Z (cw_skip (ew_blockN (ew_blockN (ew_then (cw_region (lw_op Z Z Z (ow_move Z Z (lw_op Z Z Z (ow_add Z Z Z (lw_op Z Z Z (ow_assign Z Z (lw_nil ?_))))))))))))
         have lz6 := (((((hl3.trans hl4).trans hl5).trans hl6).trans hl7).trans hl8)
         exact ew_nxt ((W (k1 + 1)), z1) hb3 fun a ha => ⟨M2, (.slice A1 z1.length c1), (ha.sub ⟨Z, Z, Z, Z, Z, trivial⟩), lz6, hC8, hr7, ho8, hm2, hge2⟩
    ·
     obtain rfl := hbb2.trans hc3
     refine cw_false Z (cw_skip (ew_then (cw_seq (cw_region (lw_op Z Z Z (ow_fieldAddr Z Z Tryd.underlying38 Z (Tryd.sizeOf3 _) (lw_op Z Z Z (ow_load (R := RInt) Z Z (ARep.mono hl5 (hp6.fld fld_Rule_Action)) (Tryd.sizeOf3 _) (Tryd.isAgg3 _) fun v20 hv20 => ?_))))))))
     obtain rfl := vint_eq hv20
     refine lw_nil (ew_then (cw_block (cw_seq (cw_seq (cw_region (lw_op Z Z Z (ow_eqlI Z Z Z fun bb8 hbb8 => lw_op Z Z Z (ow_assign Z Z (lw_nil (ew_then ?_))))))))))
     replace hb3 := cond_some hb3
     rcases hb3 with ⟨hc9, hb3⟩ | ⟨hc9, hb3⟩
     ·
      obtain rfl := hbb8.trans hc9
      refine cw_true Z (cw_skip (ew_then (cw_true Z (cw_seq (cw_region (lw_op Z Z Z (ow_fieldAddr Z Z Tryd.underlying38 Z (Tryd.sizeOf3 _) (lw_op Z Z Z (ow_load (R := RInt) Z Z (ARep.mono hl5 (hp6.fld fld_Rule_Action)) (Tryd.sizeOf3 _) (Tryd.isAgg3 _) fun v21 hv21 => ?_)))))))))
      obtain rfl := vint_eq hv21
      refine lw_op Z Z Z (ow_assign Z Z (lw_nil (ew_then (cw_ret (ew_blockR (ew_blockR (ew_thenR (ew_thenR (ew_blockR (ew_brkR (ew_thenR ?_)))))))))))
      have e5 := hR1 _ (Option.some.inj hb3).symm
      subst e5
      obtain rfl := Option.some.inj h
      exact ew_ret (res1 Z (.tmp Z)) ⟨_, Z, ((vint _)), M1, v2, ho5, hr4, hC5, hge1⟩
     ·
      obtain rfl := hbb8.trans hc9
      refine cw_false Z (cw_region (lw_op Z Z Z (ow_eqlI Z Z Z fun bb9 hbb9 => lw_op Z Z Z (ow_assign Z Z (lw_nil (ew_then ?_))))))
      replace hb3 := cond_some hb3
      rcases hb3 with ⟨hc10, hb3⟩ | ⟨hc10, hb3⟩
      ·
       obtain rfl := hbb9.trans hc10
       refine cw_true Z (cw_seq (cw_region (lw_op Z Z Z (ow_fieldAddr Z Z Tryd.underlying38 Z (Tryd.sizeOf3 _) (lw_op Z Z Z (ow_load (R := RInt) Z Z (ARep.mono hl5 (hp6.fld fld_Rule_Action)) (Tryd.sizeOf3 _) (Tryd.isAgg3 _) fun v22 hv22 => ?_))))))
       obtain rfl := vint_eq hv22
       refine lw_op Z Z Z (ow_assign Z Z (lw_nil (ew_then (cw_ret (ew_blockR (ew_blockR (ew_thenR (ew_thenR (ew_blockR (ew_brkR (ew_thenR ?_)))))))))))
       have e6 := hR1 _ (Option.some.inj hb3).symm
       subst e6
       obtain rfl := Option.some.inj h
       exact ew_ret (res1 Z (.tmp Z)) ⟨_, Z, ((vint _)), M1, v2, ho5, hr4, hC5, hge1⟩
      ·
       obtain rfl := hbb9.trans hc10
       refine cw_false Z (cw_seq (cw_region (lw_op Z Z Z (ow_eqlI Z Z Z fun bb10 hbb10 => lw_op Z Z Z (ow_assign Z Z (lw_nil (ew_then ?_)))))))
       replace hb3 := cond_some hb3
       rcases hb3 with ⟨hc11, hb3⟩ | ⟨hc11, hb3⟩
       ·
        obtain rfl := hbb10.trans hc11
        refine cw_true Z (cw_seq (cw_region (lw_op Z Z Z (ow_assign Z Z (lw_nil (ew_then (cw_ret (ew_blockR (ew_blockR (ew_thenR (ew_thenR (ew_blockR (ew_brkR (ew_thenR ?_))))))))))))))
        have e7 := hR1 _ (Option.some.inj hb3).symm
        subst e7
        obtain rfl := Option.some.inj h
        exact ew_ret (res1 Z (.tmp Z)) ⟨_, Z, ((vint _)), M1, v2, ho5, hr4, hC5, hge1⟩
       ·
        obtain rfl := hbb10.trans hc11
        refine cw_false Z (cw_seq (cw_region (lw_op Z Z Z (ow_eqlI Z Z Z fun bb11 hbb11 => lw_op Z Z Z (ow_assign Z Z (lw_nil (ew_then ?_)))))))
        replace hb3 := cond_some hb3
        rcases hb3 with ⟨hc12, hb3⟩ | ⟨hc12, hb3⟩
        ·
         obtain rfl := hbb11.trans hc12
         refine cw_true Z (cw_seq (cw_region ?_))
         have lz7 := (((hl2.trans hl3).trans hl4).trans hl5)
         refine lw_op Z Z Z (ow_load (R := RRuleset) Z Z (ARep.mono lz7 hp1) (Tryd.sizeOf25 _) (Tryd.isAgg25 _) fun v23 hv23 => lw_op Z Z Z (ow_fieldAddr Z Z Tryd.underlying38 Z (Tryd.sizeOf3 _) (lw_op Z Z Z (ow_load (R := RInt) Z Z (ARep.mono hl5 (hp6.fld fld_Rule_Chain)) (Tryd.sizeOf3 _) (Tryd.isAgg3 _) fun v24 hv24 => ?_))))
         obtain rfl := vint_eq hv24
         have lz8 := ((hl3.trans hl4).trans hl5)
         refine lw_op Z Z Z (ow_load (R := RPacket) Z Z (ARep.mono lz8 hp2) (Tryd.sizeOf27 _) (Tryd.isAgg27 _) fun v25 hv25 => lw_op Z Z Z (ow_move Z Z ?_))
         replace hb3 := bind_some hb3
         obtain ⟨x5, hx5, hb3⟩ := hb3
         refine lw_op Z Z Z (ow_call Z Z Tryd.call82 (ih (hG.mono (lz1.trans hl5)) hC5.old hv23 hv25 (hr4.base (Nat.zero_le _)) ho5 hm1 hx5) fun v26 w10 hv26 => ?_)
         obtain ⟨hw5, M4, v27, ho10, hr9, hk2, hge5⟩ := hv26
         have hY2 : ∀ b, (fun b => b = g ∨ (Value.ownBlock v2) = some b) b → w.heap.size ≤ b ∨ (fun b => b = g ∨ vs0.ownBlock = some b) b := fun b e => (e.elim (fun e => by rw [show b = g from e]; exact (.inr (.inl Z))) (fun e => (hge1 b e)))
         have hl10 := hk2.leY (fun b e => (e.elim (fun e => by rw [show b = g from e]; exact hm1) (fun e => (hr4.mem b e))))
         have hC10 := hC5.trans2 hk2 hY2
         have hge6 : ∀ b, (Value.ownBlock v27) = some b → w.heap.size ≤ b ∨ (fun b => b = g ∨ vs0.ownBlock = some b) b := fun b e => (hge5 b e).elim (fun h => .inl (Nat.le_trans hC5.bx.size h)) (hY2 b)
         have hm4 := hk2.sup _ hm1
         obtain rfl := vint_eq hw5
         refine lw_op Z Z Z (ow_assign Z Z (lw_nil (ew_then (cw_seq (cw_region (lw_op Z Z Z (ow_move Z Z (lw_op Z Z Z (ow_neqI Z Z Z fun bb12 hbb12 => lw_nil (ew_then ?_))))))))))
         replace hb3 := cond_some hb3
         rcases hb3 with ⟨hc13, hb3⟩ | ⟨hc13, hb3⟩
         ·
          obtain rfl := hbb12.trans hc13
          refine cw_true Z (cw_seq (cw_region (lw_op Z Z Z (ow_move Z Z (lw_op Z Z Z (ow_assign Z Z (lw_nil (ew_then (cw_ret (ew_blockR (ew_blockR (ew_thenR (ew_thenR (ew_blockR (ew_brkR (ew_thenR ?_))))))))))))))))
          have e8 := hR1 _ (Option.some.inj hb3).symm
          subst e8
          obtain rfl := Option.some.inj h
          exact ew_ret (res1 Z (.tmp Z)) ⟨_, Z, ((vint _)), M4, v27, ho10, hr9, hC10, hge6⟩
         ·
          obtain rfl := hbb12.trans hc13
          exact cw_false Z (cw_skip (ew_blockN (ew_blockN (ew_then (cw_region (lw_op Z Z Z (ow_move Z Z (lw_op Z Z Z (ow_add Z Z Z (lw_op Z Z Z (ow_assign Z Z (lw_nil (ew_nxt ((W (k1 + 1)), x5.2) hb3 fun a ha => ⟨M4, v27, (ha.sub ⟨Z, Z, Z, Z, Z, trivial⟩), (lz8.trans hl10), hC10, hr9, ho10, hm4, hge6⟩)))))))))))))
        ·
         obtain rfl := hbb11.trans hc12
         refine cw_false Z (cw_skip (ew_blockN (ew_blockN (ew_then (cw_region (lw_op Z Z Z (ow_move Z Z (lw_op Z Z Z (ow_add Z Z Z (lw_op Z Z Z (ow_assign Z Z (lw_nil ?_))))))))))))
         have lz9 := ((hl3.trans hl4).trans hl5)
         exact ew_nxt ((W (k1 + 1)), y1) hb3 fun a ha => ⟨M1, v2, (ha.sub ⟨Z, Z, Z, Z, Z, trivial⟩), lz9, hC5, hr4, ho5, hm1, hge1⟩
   ·
    subst hc2
    refine cw_true Z (cw_exit (ew_thenX (ew_blockX (ew_then (cw_region (lw_op Z Z Z (ow_move Z Z (lw_op Z Z Z (ow_add Z Z Z (lw_op Z Z Z (ow_assign Z Z (lw_nil ?_))))))))))))
    have lz10 := ((hl3.trans hl4).trans hl5)
    exact ew_nxt ((W (k1 + 1)), y1) hb3 fun a ha => ⟨M1, v2, (ha.sub ⟨Z, Z, Z, Z, Z, trivial⟩), lz10, hC5, hr4, ho5, hm1, hge1⟩
  ·
   obtain rfl := hbb1.trans hc1
   exact cw_false Z (cw_exit (ew_thenX (ew_thenX (ew_blockX (ew_brk (k1, y1) hb3 fun a ha => ⟨M1, v2, (ha.sub ⟨Z, Z, Z, Z, Z, trivial⟩), hl3, hC3, hw1, ho3, hm1, hge1⟩)))))
 ·
  rintro ⟨k2, y2⟩ a w11 hlr2 ⟨M5, v29, hF2, hl11, hC11, hw6, ho11, hm5, hge7⟩
  subst hlr2
  refine ew_at (E := [(1, (.int .i64 a_chain)), (3, (.pointer (some ⟨g, 0, none⟩))), (4, (.pointer (some p1))), (6, (.pointer (some p2))), (9, (.int .i64 k2))]) hF2 (ew_then (cw_seq (cw_region (lw_op Z Z Z (ow_assign Z Z (lw_nil (ew_then (cw_ret ?_))))))))
  obtain rfl := Option.some.inj h
  exact ew_ret (res1 Z (.tmp Z)) ⟨_, Z, ((vint _)), M5, v29, ho11, hw6, hC11, hge7⟩

theorem w_spec_Judge {w : World} {M : Nat → Prop} (hG : ARep (RArr 4 RShape) w M shapes ⟨0, 0, none⟩) (hO : ∀ b, M b → b < w.heap.size) {v0p : Value} {a_s : Ruleset} (h0 : VRep RRuleset w M a_s v0p) {v1p : Value} {a_p : Packet} (h1 : VRep RPacket w M a_p v1p) {r : Bool} (h : F.spec_Judge a_s a_p = some r) :
  Calls Tryd.prog 17 [v0p, v1p].toArray w fun e w' => ∃ v, e = .returned v ∧ VRep RBool w' M r v ∧ BX No w w' := by
 have hC : Cx No w M w M := Cx.start hO (fun _ e => e.elim)
 refine walk (N := 29) Tryd.func17 Z Tryd.ntmps17 Z (cw_seq (cw_region (lw_op Z Z Z (ow_box (R := RRuleset) Z Z h0 hC fun p1 w1 hp1 hb1 hl1 hC1 => lw_op Z Z Z (ow_box (R := RPacket) Z Z (VRep.mono hl1 h1) hC1 fun p2 w2 hp2 hb2 hl2 hC2 => lw_op Z Z Z (ow_assign Z Z (lw_nil (ew_then (cw_seq (cw_seq (cw_region (lw_op Z Z Z (ow_load (R := RRuleset) Z Z (ARep.mono hl2 hp1) (Tryd.sizeOf25 _) (Tryd.isAgg25 _) fun v1 hv1 => ?_)))))))))))))
 replace h := bind_some h
 obtain ⟨x1, hx1, h⟩ := h
 refine lw_op Z Z Z (ow_call Z Z Tryd.call80 (w_spec_RulesetValid (hG.mono (hl1.trans hl2)) hC2.old hv1 hx1) fun v2 w3 hv2 => ?_)
 obtain ⟨hv2, hb3⟩ := hv2
 have hl3 := Le.no M hb3
 have hC3 := hC2.no hb3
 obtain rfl := vbool_eq hv2
 refine lw_op Z Z Z (ow_not Z Z (lw_op Z Z Z (ow_move Z Z ?_)))
 replace h := cond_some h
 rcases h with ⟨hc1, h⟩ | ⟨hc1, h⟩
 ·
  subst hc1
  refine lw_on Z Z Z Z Z Z (ow_load (R := RPacket) Z Z (ARep.mono hl3 hp2) (Tryd.sizeOf27 _) (Tryd.isAgg27 _) fun v3 hv3 => ?_)
  replace h := bind_some h
  obtain ⟨x2, hx2, h⟩ := h
  have lz1 := ((hl1.trans hl2).trans hl3)
  refine lw_on Z Z Z Z Z Z (ow_call Z Z Tryd.call81 (w_spec_PacketValid (hG.mono lz1) hC3.old hv3 hx2) fun v4 w4 hv4 => ?_)
  obtain ⟨hv4, hb4⟩ := hv4
  have hl4 := Le.no M hb4
  have hC4 := hC3.no hb4
  obtain rfl := vbool_eq hv4
  refine lw_on Z Z Z Z Z Z (ow_not Z Z (lw_op Z Z Z (ow_pickF Z Z Z (lw_nil (ew_then ?_)))))
  replace h := cond_some h
  rcases h with ⟨hc2, h⟩ | ⟨hc2, h⟩
  ·
   subst hc2
   refine cw_false Z (cw_skip (ew_then (cw_seq (cw_region (lw_op Z Z Z (ow_buildSlice0 (R := RVisit) (e := 171) Z (by kernel_rfl) hC4 fun p3 w5 M1 hr1 hb5 hl5 hC5 hM1 hat1 => lw_op Z Z Z (ow_alloc Z (Tryd.zeroValue86 _) hC5 fun g1 w6 hg1 hg2 ho1 hb6 hl6 hC6 => ?_)))))))
   have hr2 := hr1.add hb6 hg1
   have hm1 : (Add g1 M1) g1 := .inl Z
   refine lw_op0 Z Z (ow_store (X := No) (us := [(.slice (some p3) 0 0)]) (cs' := #[(.slice (some p3) 0 0)]) Z Z Z Z ho1 (Tryd.sizeOf86 _) Z Z Z Z hm1 (.inl hg2) Z hC6 fun w7 ho2 hb7 hl7 hC7 => ?_)
   have hr3 := hr2.go hb7 (fun k hk e => (orow_ne hr2 ho1 (by decide)) (hk.trans (congrArg some e))) hl7 (fun _ h => h)
   refine lw_nil (ew_then (cw_seq (cw_region ?_)))
   have lz2 := (((((hl2.trans hl3).trans hl4).trans hl5).trans hl6).trans hl7)
   refine lw_op Z Z Z (ow_load (R := RRuleset) Z Z (ARep.mono lz2 hp1) (Tryd.sizeOf25 _) (Tryd.isAgg25 _) fun v5 hv5 => ?_)
   have lz3 := ((((hl3.trans hl4).trans hl5).trans hl6).trans hl7)
   refine lw_op Z Z Z (ow_load (R := RPacket) Z Z (ARep.mono lz3 hp2) (Tryd.sizeOf27 _) (Tryd.isAgg27 _) fun v6 hv6 => ?_)
   replace h := bind_some h
   obtain ⟨x3, hx3, h⟩ := h
   have lz4 := ((((lz1.trans hl4).trans hl5).trans hl6).trans hl7)
   refine lw_op Z Z Z (ow_call Z Z Tryd.call82 (w_spec_l9Walk 10 (hG.mono lz4) hC7.old hv5 hv6 (hr3.base (Nat.zero_le _)) ho2 hm1 hx3) fun v7 w8 hv7 => ?_)
   obtain ⟨hw1, M2, v8, ho3, hr4, hk1, hge1⟩ := hv7
   have hY1 : ∀ b, (fun b => b = g1 ∨ (Value.ownBlock (.slice (some p3) 0 0)) = some b) b → w.heap.size ≤ b ∨ No b := fun b e => (e.elim (fun e => by rw [show b = g1 from e]; exact (.inl hg2)) (fun e => ((fun b e => .inl (hr3.block e).1) b e)))
   have hl8 := hk1.leY (fun b e => (e.elim (fun e => by rw [show b = g1 from e]; exact hm1) (fun e => (hr3.mem b e))))
   have hC8 := hC7.trans2 hk1 hY1
   obtain rfl := vint_eq hw1
   refine lw_op Z Z Z (ow_assign Z Z (lw_nil (ew_then (cw_seq (cw_region (lw_op Z Z Z (ow_move Z Z (lw_op Z Z Z (ow_eqlI Z Z Z fun bb1 hbb1 => lw_op Z Z Z (ow_move Z Z ?_))))))))))
   replace h := cond_some h
   rcases h with ⟨hc3, h⟩ | ⟨hc3, h⟩
   ·
    obtain rfl := hbb1.trans hc3
    refine lw_off Z Z Z Z Z Z (lw_off Z Z Z Z Z Z (lw_off Z Z Z Z Z Z (lw_off' Z Z Z Z Z Z (lw_off' Z Z Z Z Z Z (lw_off Z Z Z Z Z Z (lw_op Z Z Z (ow_pickT Z Z Z (lw_op Z Z Z (ow_assign Z Z (lw_nil (ew_then (cw_ret ?_))))))))))))
    obtain rfl := Option.some.inj h
    exact ew_ret (res1 Z (.tmp Z)) ⟨_, Z, ((vbool _)), hC8.bx⟩
   ·
    obtain rfl := hbb1.trans hc3
    refine lw_on Z Z Z Z Z Z (ow_move Z Z (lw_on Z Z Z Z Z Z (ow_eqlI Z Z Z fun bb2 hbb2 => lw_on Z Z Z Z Z Z (ow_move Z Z ?_))))
    replace h := cond_some h
    rcases h with ⟨hc4, h⟩ | ⟨hc4, h⟩
    ·
     obtain rfl := hbb2.trans hc4
     refine lw_on Z Z Z Z Z Z (ow_fieldAddr Z Z Tryd.underlying25 Z (Tryd.sizeOf4 _) (lw_on Z Z Z Z Z Z (ow_load (R := RBool) Z Z (ARep.mono (lz2.trans hl8) (hp1.fld fld_Ruleset_Accept)) (Tryd.sizeOf4 _) (Tryd.isAgg4 _) fun v9 hv9 => ?_)))
     obtain ⟨bb3, hbb3, rfl⟩ := vbool_ex hv9
     refine lw_on Z Z Z Z Z Z (ow_pickT Z Z Z (lw_op Z Z Z (ow_pickF Z Z Z (lw_op Z Z Z (ow_assign Z Z (lw_nil (ew_then (cw_ret ?_))))))))
     obtain rfl := Option.some.inj h
     exact ew_ret (res1 Z (.tmp Z)) ⟨_, Z, ((vbool_of hbb3)), hC8.bx⟩
    ·
     obtain rfl := hbb2.trans hc4
     refine lw_off Z Z Z Z Z Z (lw_off Z Z Z Z Z Z (lw_on Z Z Z Z Z Z (ow_pickF Z Z Z (lw_op Z Z Z (ow_pickF Z Z Z (lw_op Z Z Z (ow_assign Z Z (lw_nil (ew_then (cw_ret ?_))))))))))
     obtain rfl := Option.some.inj h
     exact ew_ret (res1 Z (.tmp Z)) ⟨_, Z, ((vbool _)), hC8.bx⟩
  ·
   subst hc2
   refine cw_true Z (cw_seq (cw_region (lw_op Z Z Z (ow_assign Z Z (lw_nil (ew_then (cw_ret (ew_thenR ?_))))))))
   obtain rfl := Option.some.inj h
   exact ew_ret (res1 Z (.tmp Z)) ⟨_, Z, ((vbool _)), hC4.bx⟩
 ·
  subst hc1
  refine lw_off Z Z Z Z Z Z (lw_off Z Z Z Z Z Z (lw_off Z Z Z Z Z Z (lw_op Z Z Z (ow_pickT Z Z Z (lw_nil (ew_then (cw_true Z (cw_seq (cw_region (lw_op Z Z Z (ow_assign Z Z (lw_nil (ew_then (cw_ret (ew_thenR ?_)))))))))))))))
  obtain rfl := Option.some.inj h
  exact ew_ret (res1 Z (.tmp Z)) ⟨_, Z, ((vbool _)), hC3.bx⟩

theorem w_impl_JudgedBy {w : World} {M : Nat → Prop} (hG : ARep (RArr 4 RShape) w M shapes ⟨0, 0, none⟩) (hO : ∀ b, M b → b < w.heap.size) {v0p : Value} {a_s : Ruleset} (h0 : VRep RRuleset w M a_s v0p) {v1p : Value} {a_p : Packet} (h1 : VRep RPacket w M a_p v1p) {r : Int} (h : F.impl_JudgedBy a_s a_p = some r) :
  Calls Tryd.prog 18 [v0p, v1p].toArray w fun e w' => ∃ v, e = .returned v ∧ VRep RInt w' M r v ∧ BX No w w' := by
 have hC : Cx No w M w M := Cx.start hO (fun _ e => e.elim)
 refine walk (N := 21) Tryd.func18 Z Tryd.ntmps18 Z (cw_seq (cw_region (lw_op Z Z Z (ow_box (R := RRuleset) Z Z h0 hC fun p1 w1 hp1 hb1 hl1 hC1 => lw_op Z Z Z (ow_box (R := RPacket) Z Z (VRep.mono hl1 h1) hC1 fun p2 w2 hp2 hb2 hl2 hC2 => lw_op Z Z Z (ow_assign Z Z (lw_nil (ew_then (cw_seq (cw_seq (cw_region (lw_op Z Z Z (ow_load (R := RRuleset) Z Z (ARep.mono hl2 hp1) (Tryd.sizeOf25 _) (Tryd.isAgg25 _) fun v1 hv1 => ?_)))))))))))))
 replace h := bind_some h
 obtain ⟨x1, hx1, h⟩ := h
 refine lw_op Z Z Z (ow_call Z Z Tryd.call77 (w_impl_RulesetValid (hG.mono (hl1.trans hl2)) hC2.old hv1 hx1) fun v2 w3 hv2 => ?_)
 obtain ⟨hv2, hb3⟩ := hv2
 have hl3 := Le.no M hb3
 have hC3 := hC2.no hb3
 obtain rfl := vbool_eq hv2
 refine lw_op Z Z Z (ow_not Z Z (lw_op Z Z Z (ow_move Z Z ?_)))
 replace h := cond_some h
 rcases h with ⟨hc1, h⟩ | ⟨hc1, h⟩
 ·
  subst hc1
  refine lw_on Z Z Z Z Z Z (ow_load (R := RPacket) Z Z (ARep.mono hl3 hp2) (Tryd.sizeOf27 _) (Tryd.isAgg27 _) fun v3 hv3 => ?_)
  replace h := bind_some h
  obtain ⟨x2, hx2, h⟩ := h
  have lz1 := ((hl1.trans hl2).trans hl3)
  refine lw_on Z Z Z Z Z Z (ow_call Z Z Tryd.call78 (w_impl_PacketValid (hG.mono lz1) hC3.old hv3 hx2) fun v4 w4 hv4 => ?_)
  obtain ⟨hv4, hb4⟩ := hv4
  have hl4 := Le.no M hb4
  have hC4 := hC3.no hb4
  obtain rfl := vbool_eq hv4
  refine lw_on Z Z Z Z Z Z (ow_not Z Z (lw_op Z Z Z (ow_pickF Z Z Z (lw_nil (ew_then ?_)))))
  replace h := cond_some h
  rcases h with ⟨hc2, h⟩ | ⟨hc2, h⟩
  ·
   subst hc2
   refine cw_false Z (cw_skip (ew_then (cw_seq (cw_region ?_))))
   have lz2 := ((hl2.trans hl3).trans hl4)
   refine lw_op Z Z Z (ow_load (R := RRuleset) Z Z (ARep.mono lz2 hp1) (Tryd.sizeOf25 _) (Tryd.isAgg25 _) fun v5 hv5 => lw_op Z Z Z (ow_load (R := RPacket) Z Z (ARep.mono (hl3.trans hl4) hp2) (Tryd.sizeOf27 _) (Tryd.isAgg27 _) fun v6 hv6 => ?_))
   replace h := bind_some h
   obtain ⟨x3, hx3, h⟩ := h
   refine lw_op Z Z Z (ow_call Z Z Tryd.call83 (w_impl_walkThrough (hG.mono (lz1.trans hl4)) hC4.old hv5 hv6 hx3) fun v7 w5 hv7 => ?_)
   obtain ⟨⟨p3, rfl, hpw1⟩, hb5⟩ := hv7
   have hC5 := hC4.no hb5
   refine lw_op Z Z Z (ow_assign Z Z (lw_nil (ew_then (cw_seq (cw_region (lw_op Z Z Z (ow_move Z Z (lw_op Z Z Z (ow_nilCheck Z Z (lw_op Z Z Z (ow_fieldAddr Z Z Tryd.underlying117 Z (Tryd.sizeOf3 _) (lw_op Z Z Z (ow_load (R := RInt) Z Z (hpw1.fld fld_Walk_decision) (Tryd.sizeOf3 _) (Tryd.isAgg3 _) fun v8 hv8 => ?_)))))))))))))
   obtain rfl := vint_eq hv8
   refine lw_op Z Z Z (ow_assign Z Z (lw_nil (ew_then (cw_ret ?_))))
   obtain rfl := Option.some.inj h
   exact ew_ret (res1 Z (.tmp Z)) ⟨_, Z, ((vint _)), hC5.bx⟩
  ·
   subst hc2
   refine cw_true Z (cw_seq (cw_region (lw_op Z Z Z (ow_assign Z Z (lw_nil (ew_then (cw_ret (ew_thenR ?_))))))))
   obtain rfl := Option.some.inj h
   exact ew_ret (res1 Z (.tmp Z)) ⟨_, Z, ((vint _)), hC4.bx⟩
 ·
  subst hc1
  refine lw_off Z Z Z Z Z Z (lw_off Z Z Z Z Z Z (lw_off Z Z Z Z Z Z (lw_op Z Z Z (ow_pickT Z Z Z (lw_nil (ew_then (cw_true Z (cw_seq (cw_region (lw_op Z Z Z (ow_assign Z Z (lw_nil (ew_then (cw_ret (ew_thenR ?_)))))))))))))))
  obtain rfl := Option.some.inj h
  exact ew_ret (res1 Z (.tmp Z)) ⟨_, Z, ((vint _)), hC3.bx⟩

theorem w_impl_SpansHave {w : World} {M : Nat → Prop} (_hG : ARep (RArr 4 RShape) w M shapes ⟨0, 0, none⟩) (hO : ∀ b, M b → b < w.heap.size) {v0p : Value} {a_list : List Span} (h0 : VRep (RSlice RSpan) w M a_list v0p) {a_n : Int} {r : Bool} (h : F.impl_SpansHave a_list a_n = some r) :
  Calls Tryd.prog 84 [v0p, (.int .i64 a_n)].toArray w fun e w' => ∃ v, e = .returned v ∧ VRep RBool w' M r v ∧ BX No w w' := by
 have hC : Cx No w M w M := Cx.start hO (fun _ e => e.elim)
 clear _hG
 refine walk (N := 24) Tryd.func84 Z Tryd.ntmps84 Z (cw_seq (cw_region (lw_op Z Z Z (ow_assign Z Z (lw_nil (ew_then (cw_seq (cw_seq (cw_region (lw_op Z Z Z (ow_move Z Z (lw_op Z Z Z (ow_len Z Z h0 Tryd.underlying121 Z (lw_op Z Z Z (ow_move Z Z (lw_nil (ew_then ?_)))))))))))))))))
 replace h := bind_some h
 obtain ⟨lr1, hlr1, h⟩ := h
 refine cw_for hlr1 (fun s a w' => ∃ (M' : Nat → Prop), Fits 24 [(1, (.int .i64 a_n)), (7, v0p), (8, (.int .i64 (a_list.length : Int))), (9, (.int .i64 s))] a ∧ Le w M w' M' ∧ Cx No w M w' M') ?_ ?_ ?_
 ·
  intro a ha
  exact ⟨M, ha.sub ⟨Z, Z, Z, Z, trivial⟩, Le.refl _ _, hC⟩
 ·
  rintro k1 a w1 sr1 ⟨M1, hF1, hl1, hC1⟩ hb1 hR1
  refine cw_at (E := [(1, (.int .i64 a_n)), (7, v0p), (8, (.int .i64 (a_list.length : Int))), (9, (.int .i64 k1))]) hF1 (cw_seq (cw_region (lw_op Z Z Z (ow_lss Z Z Z fun bb1 hbb1 => lw_nil (ew_then (cw_seq ?_))))))
  replace hb1 := cond_some hb1
  rcases hb1 with ⟨hc1, hb1⟩ | ⟨hc1, hb1⟩
  ·
   obtain rfl := hbb1.trans hc1
   refine cw_true Z (cw_skip (ew_then (cw_seq (cw_block (cw_seq (cw_region ?_))))))
   replace hb1 := bind_some hb1
   obtain ⟨x1, hx1, hb1⟩ := hb1
   refine lw_op Z Z Z (ow_indexSlice (R := RSpan) Z Z Z (VRep.mono hl1 h0) Tryd.underlying121 (Tryd.sizeOf120 _) hx1 fun p1 hp1 => lw_op Z Z Z (ow_load (R := RSpan) Z Z hp1 (Tryd.sizeOf120 _) (Tryd.isAgg120 _) fun v2 hv2 => lw_allocStore (R := RSpan) Z Z Z Z Z Z Z Tryd.zeroValue120 Tryd.sizeOf120 Z Z Z (by simp) hv2 hC1 fun p2 w2 hp2 hb2 hl2 hC2 => lw_nil (ew_then (cw_seq (cw_region (lw_op Z Z Z (ow_fieldAddr Z Z Tryd.underlying120 Z (Tryd.sizeOf3 _) (lw_op Z Z Z (ow_load (R := RInt) Z Z (hp2.fld fld_Span_Lo) (Tryd.sizeOf3 _) (Tryd.isAgg3 _) fun v3 hv3 => ?_)))))))))
   obtain rfl := vint_eq hv3
   refine lw_op Z Z Z (ow_move Z Z (lw_op Z Z Z (ow_leq Z Z Z fun bb2 hbb2 => lw_op Z Z Z (ow_move Z Z ?_))))
   replace hb1 := cond_some hb1
   rcases hb1 with ⟨hc2, hb1⟩ | ⟨hc2, hb1⟩
   ·
    obtain rfl := hbb2.trans hc2
    refine lw_on Z Z Z Z Z Z (ow_move Z Z (lw_on Z Z Z Z Z Z (ow_fieldAddr Z Z Tryd.underlying120 Z (Tryd.sizeOf3 _) (lw_on Z Z Z Z Z Z (ow_load (R := RInt) Z Z (hp2.fld fld_Span_Hi) (Tryd.sizeOf3 _) (Tryd.isAgg3 _) fun v4 hv4 => ?_)))))
    obtain rfl := vint_eq hv4
    refine lw_on Z Z Z Z Z Z (ow_leq Z Z Z fun bb3 hbb3 => lw_op Z Z Z (ow_pickT Z Z Z (lw_nil (ew_then ?_))))
    replace hb1 := cond_some hb1
    rcases hb1 with ⟨hc3, hb1⟩ | ⟨hc3, hb1⟩
    ·
     obtain rfl := hbb3.trans hc3
     refine cw_true Z (cw_seq (cw_region (lw_op Z Z Z (ow_assign Z Z (lw_nil (ew_then (cw_ret (ew_blockR (ew_thenR (ew_thenR (ew_blockR (ew_brkR (ew_thenR ?_)))))))))))))
     have e1 := hR1 _ (Option.some.inj hb1).symm
     subst e1
     obtain rfl := Option.some.inj h
     exact ew_ret (res1 Z (.tmp Z)) ⟨_, Z, ((vbool _)), hC2.bx⟩
    ·
     obtain rfl := hbb3.trans hc3
     exact cw_false Z (cw_skip (ew_blockN (ew_then (cw_region (lw_op Z Z Z (ow_add Z Z Z (lw_op Z Z Z (ow_move Z Z (lw_nil (ew_nxt (W (k1 + 1)) hb1 fun a ha => ⟨M1, (ha.sub ⟨Z, Z, Z, Z, trivial⟩), (hl1.trans hl2), hC2⟩))))))))))
   ·
    obtain rfl := hbb2.trans hc2
    exact lw_off Z Z Z Z Z Z (lw_off Z Z Z Z Z Z (lw_off Z Z Z Z Z Z (lw_off Z Z Z Z Z Z (lw_op Z Z Z (ow_pickF Z Z Z (lw_nil (ew_then (cw_false Z (cw_skip (ew_blockN (ew_then (cw_region (lw_op Z Z Z (ow_add Z Z Z (lw_op Z Z Z (ow_move Z Z (lw_nil (ew_nxt (W (k1 + 1)) hb1 fun a ha => ⟨M1, (ha.sub ⟨Z, Z, Z, Z, trivial⟩), (hl1.trans hl2), hC2⟩))))))))))))))))))
  ·
   obtain rfl := hbb1.trans hc1
   exact cw_false Z (cw_exit (ew_thenX (ew_thenX (ew_blockX (ew_brk k1 hb1 fun a ha => ⟨M1, (ha.sub ⟨Z, Z, Z, Z, trivial⟩), hl1, hC1⟩)))))
 ·
  rintro k2 a w3 hlr2 ⟨M2, hF2, hl3, hC3⟩
  subst hlr2
  refine ew_at (E := [(1, (.int .i64 a_n)), (7, v0p), (8, (.int .i64 (a_list.length : Int))), (9, (.int .i64 k2))]) hF2 (ew_then (cw_seq (cw_region (lw_op Z Z Z (ow_assign Z Z (lw_nil (ew_then (cw_ret ?_))))))))
  obtain rfl := Option.some.inj h
  exact ew_ret (res1 Z (.tmp Z)) ⟨_, Z, ((vbool _)), hC3.bx⟩

theorem w_laws_alive {w : World} {M : Nat → Prop} (hG : ARep (RArr 4 RShape) w M shapes ⟨0, 0, none⟩) (hO : ∀ b, M b → b < w.heap.size)  {r : Bool} (h : F.laws_alive = some r) :
  Calls Tryd.prog 19 [].toArray w fun e w' => ∃ v, e = .returned v ∧ VRep RBool w' M r v ∧ BX No w w' := by
 have hC : Cx No w M w M := Cx.start hO (fun _ e => e.elim)
 refine walk (N := 4) Tryd.func19 Z Tryd.ntmps19 Z (cw_seq (cw_region (lw_op Z Z Z (ow_assign Z Z (lw_nil (ew_then (cw_seq (cw_region (lw_op Z Z Z (ow_build (v := .agg #[(.int .i64 2), (.int .i64 4)]) Z Z (by kernel_rfl) ?_))))))))))
 have hw1 : VRep RSpan w M ({ Lo := 2, Hi := 4 } : Span) (.agg #[(.int .i64 2), (.int .i64 4)]) := shut_Span
 refine lw_op Z Z Z (ow_buildSlice (R := RSpan) (xs := [({ Lo := 2, Hi := 4 } : Span)]) (cs := #[(.int .i64 2), (.int .i64 4)]) (e := 120) Z Z (by kernel_rfl) Z Z ⟨_, _, Z, hw1.cells, Z⟩ hC fun p1 w1 hw2 hb1 hl1 hC1 => ?_)
 replace h := bind_some h
 obtain ⟨x1, hx1, h⟩ := h
 refine lw_op Z Z Z (ow_call Z Z Tryd.call84 (w_impl_SpansHave (hG.mono hl1) hC1.old hw2 hx1) fun v1 w2 hv1 => ?_)
 obtain ⟨hv1, hb2⟩ := hv1
 have hC2 := hC1.no hb2
 obtain rfl := vbool_eq hv1
 refine lw_op Z Z Z (ow_assign Z Z (lw_nil (ew_then (cw_ret ?_))))
 obtain rfl := Option.some.inj h
 exact ew_ret (res1 Z (.tmp Z)) ⟨_, Z, ((vbool _)), hC2.bx⟩

theorem w_laws_FnJudge {w : World} {M : Nat → Prop} (hG : ARep (RArr 4 RShape) w M shapes ⟨0, 0, none⟩) (hO : ∀ b, M b → b < w.heap.size) {v0p : Value} {a_code : List Int} (h0 : VRep (RSlice RU8) w M a_code v0p) {r : Bool} (h : F.laws_FnJudge a_code = some r) :
  Calls Tryd.prog 3 [v0p].toArray w fun e w' => ∃ v, e = .returned v ∧ VRep RBool w' M r v ∧ BX No w w' := by
 have hC : Cx No w M w M := Cx.start hO (fun _ e => e.elim)
 refine walk (N := 61) Tryd.func3 Z Tryd.ntmps3 Z (cw_seq (cw_region (lw_op Z Z Z (ow_assign Z Z (lw_nil (ew_then (cw_seq (cw_seq (cw_region (lw_op Z Z Z (ow_move Z Z (lw_op Z Z Z (ow_len Z Z h0 Tryd.underlying22 Z (lw_op Z Z Z (ow_gtr Z Z Z fun bb1 hbb1 => lw_nil (ew_then ?_))))))))))))))))
 replace h := cond_some h
 rcases h with ⟨hc1, h⟩ | ⟨hc1, h⟩
 ·
  obtain rfl := hbb1.trans hc1
  refine cw_true Z (cw_seq (cw_region (lw_op Z Z Z (ow_assign Z Z (lw_nil (ew_then (cw_ret (ew_thenR ?_))))))))
  obtain rfl := Option.some.inj h
  exact ew_ret (res1 Z (.tmp Z)) ⟨_, Z, ((vbool _)), hC.bx⟩
 ·
  obtain rfl := hbb1.trans hc1
  refine cw_false Z (cw_skip (ew_then (cw_seq (cw_region (lw_op Z Z Z (ow_move Z Z ?_))))))
  replace h := bind_some h
  obtain ⟨x1, hx1, h⟩ := h
  refine lw_op Z Z Z (ow_call Z Z Tryd.call15 (w_spec_DrawJudge hG hC.old h0 hx1) fun v1 w1 hv1 => ?_)
  obtain ⟨⟨v2, v3, rfl, hv2, hv3⟩, hb1⟩ := hv1
  have hl1 := Le.no M hb1
  have hC1 := hC.no hb1
  refine lw_op Z Z Z (ow_move Z Z (lw_op Z Z Z (ow_extract Z Z Z (lw_op Z Z Z (ow_extract Z Z Z (lw_op Z Z Z (ow_alloc Z (Tryd.zeroValue25 _) hC1 fun g1 w2 hg1 hg2 ho1 hb2 hl2 hC2 => ?_)))))))
  have hm1 : (Add g1 M) g1 := .inl Z
  refine lw_op Z Z Z (ow_alloc Z (Tryd.zeroValue27 _) hC2 fun g2 w3 hg3 hg4 ho2 hb3 hl3 hC3 => ?_)
  have hn1 := Nat.ne_of_lt (Nat.lt_of_lt_of_le ho1.lt hg3)
  have ho3 := ho1.no hb3
  have hm2 : (Add g2 (Add g1 M)) g1 := .inr hm1
  have hm3 : (Add g2 (Add g1 M)) g2 := .inl Z
  obtain ⟨A1, c1, rfl, hw1⟩ := open_Ruleset hv2
  refine lw_op0 Z Z (ow_store (X := No) (us := [(.slice A1 x1.1.Chains.length c1), (.bool x1.1.Accept)]) (cs' := #[(.slice A1 x1.1.Chains.length c1), (.bool x1.1.Accept)]) Z Z Z Z ho3 (Tryd.sizeOf25 _) Z Z Z Z hm2 (.inl hg2) Z hC3 fun w4 ho4 hb4 hl4 hC4 => ?_)
  have ho5 := ho2.go hb4 (fun e => hn1 e.symm)
  obtain rfl := open_Packet hv3
  refine lw_op0 Z Z (ow_store (X := No) (us := [(.int .i64 x1.2.From), (.int .i64 x1.2.To), (.int .i64 x1.2.Port), (.int .i64 x1.2.Proto)]) (cs' := #[(.int .i64 x1.2.From), (.int .i64 x1.2.To), (.int .i64 x1.2.Port), (.int .i64 x1.2.Proto)]) Z Z Z Z ho5 (Tryd.sizeOf27 _) Z Z Z Z hm3 (.inl hg4) Z hC4 fun w5 ho6 hb5 hl5 hC5 => ?_)
  have ho7 := ho4.go hb5 (fun e => hn1 e)
  refine lw_nil (ew_then (cw_seq (cw_region (lw_op Z Z Z (ow_loadOwnA Z Z Z ho7 (Tryd.isAgg25 _) (Tryd.sizeOf25 _) Z ?_)))))
  have lz1 := (((hl2.trans hl3).trans hl4).trans hl5)
  have hw2 : VRep RRuleset w5 (Add g2 (Add g1 M)) ({ Chains := x1.1.Chains, Accept := x1.1.Accept } : Ruleset) (.agg #[(.slice A1 x1.1.Chains.length c1), (.bool x1.1.Accept)]) := shut_Ruleset (VRep.mono lz1 hw1)
  refine lw_op Z Z Z (ow_loadOwnA Z Z Z ho6 (Tryd.isAgg27 _) (Tryd.sizeOf27 _) Z ?_)
  have hw3 : VRep RPacket w5 (Add g2 (Add g1 M)) ({ From := x1.2.From, To := x1.2.To, Port := x1.2.Port, Proto := x1.2.Proto } : Packet) (.agg #[(.int .i64 x1.2.From), (.int .i64 x1.2.To), (.int .i64 x1.2.Port), (.int .i64 x1.2.Proto)]) := shut_Packet
  replace h := bind_some h
  obtain ⟨x2, hx2, h⟩ := h
  have lz2 := ((((hl1.trans hl2).trans hl3).trans hl4).trans hl5)
  refine lw_op Z Z Z (ow_call Z Z Tryd.call16 (w_impl_Judge (hG.mono lz2) hC5.old hw2 hw3 hx2) fun v4 w6 hv4 => ?_)
  obtain ⟨hv4, hb6⟩ := hv4
  have hl6 := Le.no (Add g2 (Add g1 M)) hb6
  have hC6 := hC5.no hb6
  have ho8 := ho7.no hb6
  have ho9 := ho6.no hb6
  obtain rfl := vbool_eq hv4
  refine lw_op Z Z Z (ow_assign Z Z (lw_nil (ew_then (cw_seq (cw_seq (cw_region (lw_op Z Z Z (ow_move Z Z (lw_op Z Z Z (ow_loadOwnA Z Z Z ho8 (Tryd.isAgg25 _) (Tryd.sizeOf25 _) Z ?_))))))))))
  have hw4 : VRep RRuleset w6 (Add g2 (Add g1 M)) ({ Chains := x1.1.Chains, Accept := x1.1.Accept } : Ruleset) (.agg #[(.slice A1 x1.1.Chains.length c1), (.bool x1.1.Accept)]) := shut_Ruleset (VRep.mono (lz1.trans hl6) hw1)
  refine lw_op Z Z Z (ow_loadOwnA Z Z Z ho9 (Tryd.isAgg27 _) (Tryd.sizeOf27 _) Z ?_)
  have hw5 : VRep RPacket w6 (Add g2 (Add g1 M)) ({ From := x1.2.From, To := x1.2.To, Port := x1.2.Port, Proto := x1.2.Proto } : Packet) (.agg #[(.int .i64 x1.2.From), (.int .i64 x1.2.To), (.int .i64 x1.2.Port), (.int .i64 x1.2.Proto)]) := shut_Packet
  replace h := bind_some h
  obtain ⟨x3, hx3, h⟩ := h
  refine lw_op Z Z Z (ow_call Z Z Tryd.call17 (w_spec_Judge (hG.mono (lz2.trans hl6)) hC6.old hw4 hw5 hx3) fun v5 w7 hv5 => ?_)
  obtain ⟨hv5, hb7⟩ := hv5
  have hl7 := Le.no (Add g2 (Add g1 M)) hb7
  have hC7 := hC6.no hb7
  have ho10 := ho8.no hb7
  have ho11 := ho9.no hb7
  obtain rfl := vbool_eq hv5
  refine lw_op Z Z Z (ow_neqB Z Z Z Tryd.underlying4 fun bb2 hbb2 => lw_nil (ew_then ?_))
  replace h := cond_some h
  rcases h with ⟨hc2, h⟩ | ⟨hc2, h⟩
  ·
   obtain rfl := hbb2.trans hc2
   refine cw_true Z (cw_seq (cw_region (lw_op Z Z Z (ow_assign Z Z (lw_nil (ew_then (cw_ret (ew_thenR ?_))))))))
   obtain rfl := Option.some.inj h
   exact ew_ret (res1 Z (.tmp Z)) ⟨_, Z, ((vbool _)), hC7.bx⟩
  ·
   obtain rfl := hbb2.trans hc2
   refine cw_false Z (cw_skip (ew_then (cw_seq (cw_region (lw_op Z Z Z (ow_loadOwnA Z Z Z ho10 (Tryd.isAgg25 _) (Tryd.sizeOf25 _) Z ?_))))))
   have lz3 := ((lz1.trans hl6).trans hl7)
   have hw6 : VRep RRuleset w7 (Add g2 (Add g1 M)) ({ Chains := x1.1.Chains, Accept := x1.1.Accept } : Ruleset) (.agg #[(.slice A1 x1.1.Chains.length c1), (.bool x1.1.Accept)]) := shut_Ruleset (VRep.mono lz3 hw1)
   refine lw_op Z Z Z (ow_loadOwnA Z Z Z ho11 (Tryd.isAgg27 _) (Tryd.sizeOf27 _) Z ?_)
   have hw7 : VRep RPacket w7 (Add g2 (Add g1 M)) ({ From := x1.2.From, To := x1.2.To, Port := x1.2.Port, Proto := x1.2.Proto } : Packet) (.agg #[(.int .i64 x1.2.From), (.int .i64 x1.2.To), (.int .i64 x1.2.Port), (.int .i64 x1.2.Proto)]) := shut_Packet
   replace h := bind_some h
   obtain ⟨x4, hx4, h⟩ := h
   have lz4 := ((lz2.trans hl6).trans hl7)
   refine lw_op Z Z Z (ow_call Z Z Tryd.call18 (w_impl_JudgedBy (hG.mono lz4) hC7.old hw6 hw7 hx4) fun v6 w8 hv6 => ?_)
   obtain ⟨hv6, hb8⟩ := hv6
   have hl8 := Le.no (Add g2 (Add g1 M)) hb8
   have hC8 := hC7.no hb8
   have ho12 := ho10.no hb8
   have ho13 := ho11.no hb8
   obtain rfl := vint_eq hv6
   refine lw_op Z Z Z (ow_assign Z Z (lw_nil (ew_then (cw_seq (cw_seq (cw_region (lw_op Z Z Z (ow_move Z Z (lw_op Z Z Z (ow_eqlI Z Z Z fun bb3 hbb3 => lw_nil (ew_then ?_)))))))))))
   replace h := cond_some h
   rcases h with ⟨hc3, h⟩ | ⟨hc3, h⟩
   ·
    obtain rfl := hbb3.trans hc3
    refine cw_true Z (cw_seq (cw_region (lw_op Z Z Z (ow_move Z Z (lw_op Z Z Z (ow_not Z Z (lw_op Z Z Z (ow_move Z Z ?_))))))))
    replace h := cond_some h
    rcases h with ⟨hc4, h⟩ | ⟨hc4, h⟩
    ·
     subst hc4
     refine lw_off Z Z Z Z Z Z (lw_op Z Z Z (ow_pickF Z Z Z (lw_op Z Z Z (ow_assign Z Z (lw_nil (ew_then (cw_ret (ew_thenR ?_))))))))
     obtain rfl := Option.some.inj h
     exact ew_ret (res1 Z (.tmp Z)) ⟨_, Z, ((vbool _)), hC8.bx⟩
    ·
     subst hc4
     replace h := bind_some h
     obtain ⟨x5, hx5, h⟩ := h
     refine lw_on Z Z Z Z Z Z (ow_call Z Z Tryd.call19 (w_laws_alive (hG.mono (lz4.trans hl8)) hC8.old hx5) fun v7 w9 hv7 => ?_)
     obtain ⟨hv7, hb9⟩ := hv7
     have hC9 := hC8.no hb9
     obtain rfl := vbool_eq hv7
     refine lw_op Z Z Z (ow_pickT Z Z Z (lw_op Z Z Z (ow_assign Z Z (lw_nil (ew_then (cw_ret (ew_thenR ?_)))))))
     obtain rfl := Option.some.inj h
     exact ew_ret (res1 Z (.tmp Z)) ⟨_, Z, ((vbool _)), hC9.bx⟩
   ·
    obtain rfl := hbb3.trans hc3
    refine cw_false Z (cw_skip (ew_then (cw_seq (cw_region (lw_op Z Z Z (ow_loadOwnA Z Z Z ho12 (Tryd.isAgg25 _) (Tryd.sizeOf25 _) Z (lw_op Z Z Z (ow_alloc Z (Tryd.zeroValue25 _) hC8 fun g3 w10 hg5 hg6 ho16 hb10 hl10 hC10 => ?_))))))))
    have hn2 := Nat.ne_of_lt (Nat.lt_of_lt_of_le ho12.lt hg5)
    have ho17 := ho12.no hb10
    have hn3 := Nat.ne_of_lt (Nat.lt_of_lt_of_le ho13.lt hg5)
    have ho18 := ho13.no hb10
    have hm6 : (Add g3 (Add g2 (Add g1 M))) g3 := .inl Z
    refine lw_op0 Z Z (ow_store (X := No) (us := [(.slice A1 x1.1.Chains.length c1), (.bool x1.1.Accept)]) (cs' := #[(.slice A1 x1.1.Chains.length c1), (.bool x1.1.Accept)]) Z Z Z Z ho16 (Tryd.sizeOf25 _) Z Z Z Z hm6 (.inl hg6) Z hC10 fun w11 ho19 hb11 hl11 hC11 => ?_)
    have ho20 := ho17.go hb11 (fun e => hn2 e)
    have ho21 := ho18.go hb11 (fun e => hn3 e)
    refine lw_nil (ew_then (cw_seq (cw_region (lw_op Z Z Z (ow_fieldAddr Z Z Tryd.underlying25 Z (Tryd.sizeOf4 _) (lw_op Z Z Z (ow_loadOwn1 Z Z Z ho20 (Tryd.isAgg4 _) Z (lw_op Z Z Z (ow_not Z Z (lw_op Z Z Z (ow_fieldAddr Z Z Tryd.underlying25 Z (Tryd.sizeOf4 _) (lw_op0 Z Z (ow_store (X := No) (us := [(.bool (!x1.1.Accept))]) (cs' := #[(.slice A1 x1.1.Chains.length c1), (.bool (!x1.1.Accept))]) Z Z Z Z ho19 (Tryd.sizeOf4 _) Z Z Z Z hm6 (.inl hg6) Z hC11 fun w12 ho22 hb12 hl12 hC12 => ?_)))))))))))))
    have ho23 := ho20.go hb12 (fun e => hn2 e)
    have ho24 := ho21.go hb12 (fun e => hn3 e)
    refine lw_nil (ew_then (cw_seq (cw_region (lw_op Z Z Z (ow_move Z Z (lw_op Z Z Z (ow_move Z Z (lw_op Z Z Z (ow_eqlI Z Z Z fun bb4 hbb4 => lw_op Z Z Z (ow_move Z Z ?_))))))))))
    replace h := cond_some h
    rcases h with ⟨hc5, h⟩ | ⟨hc5, h⟩
    ·
     obtain rfl := hbb4.trans hc5
     refine lw_off Z Z Z Z Z Z (lw_off Z Z Z Z Z Z (lw_off Z Z Z Z Z Z (lw_off' Z Z Z Z Z Z (lw_off' Z Z Z Z Z Z (lw_off Z Z Z Z Z Z (lw_op Z Z Z (ow_pickT Z Z Z (lw_op Z Z Z (ow_eqlB Z Z Z Tryd.underlying4 fun bb5 hbb5 => lw_op Z Z Z (ow_move Z Z ?_))))))))))
     replace h := cond_some h
     rcases h with ⟨hc6, h⟩ | ⟨hc6, h⟩
     ·
      obtain rfl := hbb5.trans hc6
      refine lw_on Z Z Z Z Z Z (ow_move Z Z (lw_on Z Z Z Z Z Z (ow_eqlI Z Z Z fun bb6 hbb6 => lw_on Z Z Z Z Z Z (ow_loadOwnA Z Z Z ho22 (Tryd.isAgg25 _) (Tryd.sizeOf25 _) Z ?_))))
      have lz5 := ((((lz3.trans hl8).trans hl10).trans hl11).trans hl12)
      have hw9 : VRep RRuleset w12 (Add g3 (Add g2 (Add g1 M))) ({ Chains := x1.1.Chains, Accept := (!x1.1.Accept) } : Ruleset) (.agg #[(.slice A1 x1.1.Chains.length c1), (.bool (!x1.1.Accept))]) := shut_Ruleset (VRep.mono lz5 hw1)
      refine lw_on Z Z Z Z Z Z (ow_loadOwnA Z Z Z ho24 (Tryd.isAgg27 _) (Tryd.sizeOf27 _) Z ?_)
      have hw10 : VRep RPacket w12 (Add g3 (Add g2 (Add g1 M))) ({ From := x1.2.From, To := x1.2.To, Port := x1.2.Port, Proto := x1.2.Proto } : Packet) (.agg #[(.int .i64 x1.2.From), (.int .i64 x1.2.To), (.int .i64 x1.2.Port), (.int .i64 x1.2.Proto)]) := shut_Packet
      replace h := bind_some h
      obtain ⟨x6, hx6, h⟩ := h
      have lz6 := ((((lz4.trans hl8).trans hl10).trans hl11).trans hl12)
      refine lw_on Z Z Z Z Z Z (ow_call Z Z Tryd.call16 (w_impl_Judge (hG.mono lz6) hC12.old hw9 hw10 hx6) fun v8 w13 hv8 => ?_)
      obtain ⟨hv8, hb13⟩ := hv8
      have hC13 := hC12.no hb13
      obtain rfl := vbool_eq hv8
      refine lw_on Z Z Z Z Z Z (ow_move Z Z (lw_on Z Z Z Z Z Z (ow_neqB Z Z Z Tryd.underlying4 fun bb7 hbb7 => lw_on Z Z Z Z Z Z (ow_eqlB Z Z Z Tryd.underlying4 fun bb8 hbb8 => ?_))))
      have hbb8' : bb8 = ((x4 == 5) == (x6 != x2)) := hbb8.trans (by rw [hbb6, hbb7])
      refine lw_op Z Z Z (ow_pickT Z Z Z (lw_op Z Z Z (ow_assign Z Z (lw_nil (ew_then (cw_ret ?_))))))
      obtain rfl := Option.some.inj h
      exact ew_ret (res1 Z (.tmp Z)) ⟨_, Z, ((vbool_of hbb8')), hC13.bx⟩
     ·
      obtain rfl := hbb5.trans hc6
      refine lw_off Z Z Z Z Z Z (lw_off Z Z Z Z Z Z (lw_off Z Z Z Z Z Z (lw_off Z Z Z Z Z Z (lw_off Z Z Z Z Z Z (lw_off Z Z Z Z Z Z (lw_off Z Z Z Z Z Z (lw_off Z Z Z Z Z Z (lw_op Z Z Z (ow_pickF Z Z Z (lw_op Z Z Z (ow_assign Z Z (lw_nil (ew_then (cw_ret ?_))))))))))))))
      obtain rfl := Option.some.inj h
      exact ew_ret (res1 Z (.tmp Z)) ⟨_, Z, ((vbool _)), hC12.bx⟩
    ·
     obtain rfl := hbb4.trans hc5
     refine lw_on Z Z Z Z Z Z (ow_move Z Z (lw_on Z Z Z Z Z Z (ow_eqlI Z Z Z fun bb9 hbb9 => lw_on Z Z Z Z Z Z (ow_move Z Z ?_))))
     replace h := cond_some h
     rcases h with ⟨hc7, h⟩ | ⟨hc7, h⟩
     ·
      obtain rfl := hbb9.trans hc7
      refine lw_on Z Z Z Z Z Z (ow_fieldAddr Z Z Tryd.underlying25 Z (Tryd.sizeOf4 _) (lw_on Z Z Z Z Z Z (ow_loadOwn1 Z Z Z ho23 (Tryd.isAgg4 _) Z (lw_on Z Z Z Z Z Z (ow_pickT Z Z Z (lw_op Z Z Z (ow_pickF Z Z Z (lw_op Z Z Z (ow_eqlB Z Z Z Tryd.underlying4 fun bb10 hbb10 => lw_op Z Z Z (ow_move Z Z ?_))))))))))
      replace h := cond_some h
      rcases h with ⟨hc8, h⟩ | ⟨hc8, h⟩
      ·
       obtain rfl := hbb10.trans hc8
       refine lw_on Z Z Z Z Z Z (ow_move Z Z (lw_on Z Z Z Z Z Z (ow_eqlI Z Z Z fun bb11 hbb11 => ?_)))
       obtain rfl := hbb11.trans hc7
       refine lw_on Z Z Z Z Z Z (ow_loadOwnA Z Z Z ho22 (Tryd.isAgg25 _) (Tryd.sizeOf25 _) Z ?_)
       have lz7 := ((((lz3.trans hl8).trans hl10).trans hl11).trans hl12)
       have hw11 : VRep RRuleset w12 (Add g3 (Add g2 (Add g1 M))) ({ Chains := x1.1.Chains, Accept := (!x1.1.Accept) } : Ruleset) (.agg #[(.slice A1 x1.1.Chains.length c1), (.bool (!x1.1.Accept))]) := shut_Ruleset (VRep.mono lz7 hw1)
       refine lw_on Z Z Z Z Z Z (ow_loadOwnA Z Z Z ho24 (Tryd.isAgg27 _) (Tryd.sizeOf27 _) Z ?_)
       have hw12 : VRep RPacket w12 (Add g3 (Add g2 (Add g1 M))) ({ From := x1.2.From, To := x1.2.To, Port := x1.2.Port, Proto := x1.2.Proto } : Packet) (.agg #[(.int .i64 x1.2.From), (.int .i64 x1.2.To), (.int .i64 x1.2.Port), (.int .i64 x1.2.Proto)]) := shut_Packet
       replace h := bind_some h
       obtain ⟨x7, hx7, h⟩ := h
       have lz8 := ((((lz4.trans hl8).trans hl10).trans hl11).trans hl12)
       refine lw_on Z Z Z Z Z Z (ow_call Z Z Tryd.call16 (w_impl_Judge (hG.mono lz8) hC12.old hw11 hw12 hx7) fun v9 w14 hv9 => ?_)
       obtain ⟨hv9, hb14⟩ := hv9
       have hC14 := hC12.no hb14
       obtain rfl := vbool_eq hv9
       refine lw_on Z Z Z Z Z Z (ow_move Z Z (lw_on Z Z Z Z Z Z (ow_neqB Z Z Z Tryd.underlying4 fun bb12 hbb12 => lw_on Z Z Z Z Z Z (ow_eqlB Z Z Z Tryd.underlying4 fun bb13 hbb13 => ?_))))
       have hbb13' : bb13 = (true == (x7 != x2)) := hbb13.trans (by rw [hbb12])
       refine lw_op Z Z Z (ow_pickT Z Z Z (lw_op Z Z Z (ow_assign Z Z (lw_nil (ew_then (cw_ret ?_))))))
       obtain rfl := Option.some.inj h
       exact ew_ret (res1 Z (.tmp Z)) ⟨_, Z, ((vbool_of hbb13')), hC14.bx⟩
      ·
       obtain rfl := hbb10.trans hc8
       refine lw_off Z Z Z Z Z Z (lw_off Z Z Z Z Z Z (lw_off Z Z Z Z Z Z (lw_off Z Z Z Z Z Z (lw_off Z Z Z Z Z Z (lw_off Z Z Z Z Z Z (lw_off Z Z Z Z Z Z (lw_off Z Z Z Z Z Z (lw_op Z Z Z (ow_pickF Z Z Z (lw_op Z Z Z (ow_assign Z Z (lw_nil (ew_then (cw_ret ?_))))))))))))))
       obtain rfl := Option.some.inj h
       exact ew_ret (res1 Z (.tmp Z)) ⟨_, Z, ((vbool _)), hC12.bx⟩
     ·
      obtain rfl := hbb9.trans hc7
      refine lw_off Z Z Z Z Z Z (lw_off Z Z Z Z Z Z (lw_on Z Z Z Z Z Z (ow_pickF Z Z Z (lw_op Z Z Z (ow_pickF Z Z Z (lw_op Z Z Z (ow_eqlB Z Z Z Tryd.underlying4 fun bb14 hbb14 => lw_op Z Z Z (ow_move Z Z ?_))))))))
      replace h := cond_some h
      rcases h with ⟨hc9, h⟩ | ⟨hc9, h⟩
      ·
       obtain rfl := hbb14.trans hc9
       refine lw_on Z Z Z Z Z Z (ow_move Z Z (lw_on Z Z Z Z Z Z (ow_eqlI Z Z Z fun bb15 hbb15 => ?_)))
       obtain rfl := hbb15.trans hc7
       refine lw_on Z Z Z Z Z Z (ow_loadOwnA Z Z Z ho22 (Tryd.isAgg25 _) (Tryd.sizeOf25 _) Z ?_)
       have lz9 := ((((lz3.trans hl8).trans hl10).trans hl11).trans hl12)
       have hw13 : VRep RRuleset w12 (Add g3 (Add g2 (Add g1 M))) ({ Chains := x1.1.Chains, Accept := (!x1.1.Accept) } : Ruleset) (.agg #[(.slice A1 x1.1.Chains.length c1), (.bool (!x1.1.Accept))]) := shut_Ruleset (VRep.mono lz9 hw1)
       refine lw_on Z Z Z Z Z Z (ow_loadOwnA Z Z Z ho24 (Tryd.isAgg27 _) (Tryd.sizeOf27 _) Z ?_)
       have hw14 : VRep RPacket w12 (Add g3 (Add g2 (Add g1 M))) ({ From := x1.2.From, To := x1.2.To, Port := x1.2.Port, Proto := x1.2.Proto } : Packet) (.agg #[(.int .i64 x1.2.From), (.int .i64 x1.2.To), (.int .i64 x1.2.Port), (.int .i64 x1.2.Proto)]) := shut_Packet
       replace h := bind_some h
       obtain ⟨x8, hx8, h⟩ := h
       have lz10 := ((((lz4.trans hl8).trans hl10).trans hl11).trans hl12)
       refine lw_on Z Z Z Z Z Z (ow_call Z Z Tryd.call16 (w_impl_Judge (hG.mono lz10) hC12.old hw13 hw14 hx8) fun v10 w15 hv10 => ?_)
       obtain ⟨hv10, hb15⟩ := hv10
       have hC15 := hC12.no hb15
       obtain rfl := vbool_eq hv10
       refine lw_on Z Z Z Z Z Z (ow_move Z Z (lw_on Z Z Z Z Z Z (ow_neqB Z Z Z Tryd.underlying4 fun bb16 hbb16 => lw_on Z Z Z Z Z Z (ow_eqlB Z Z Z Tryd.underlying4 fun bb17 hbb17 => ?_))))
       have hbb17' : bb17 = (false == (x8 != x2)) := hbb17.trans (by rw [hbb16])
       refine lw_op Z Z Z (ow_pickT Z Z Z (lw_op Z Z Z (ow_assign Z Z (lw_nil (ew_then (cw_ret ?_))))))
       obtain rfl := Option.some.inj h
       exact ew_ret (res1 Z (.tmp Z)) ⟨_, Z, ((vbool_of hbb17')), hC15.bx⟩
      ·
       obtain rfl := hbb14.trans hc9
       refine lw_off Z Z Z Z Z Z (lw_off Z Z Z Z Z Z (lw_off Z Z Z Z Z Z (lw_off Z Z Z Z Z Z (lw_off Z Z Z Z Z Z (lw_off Z Z Z Z Z Z (lw_off Z Z Z Z Z Z (lw_off Z Z Z Z Z Z (lw_op Z Z Z (ow_pickF Z Z Z (lw_op Z Z Z (ow_assign Z Z (lw_nil (ew_then (cw_ret ?_))))))))))))))
       obtain rfl := Option.some.inj h
       exact ew_ret (res1 Z (.tmp Z)) ⟨_, Z, ((vbool _)), hC12.bx⟩


end Go.PF
