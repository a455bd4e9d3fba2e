/- The walks; no condition. -/
import Derived.Test.YtggckckjmhhdhaaDoorProg
import Derived.Test.YtggckckjmhhdhaaDoorWk0
import Derived.Test.YtggckckjmhhdhaaDoorPFChain
set_option maxRecDepth 100000
set_option maxHeartbeats 4000000
namespace Go.PF
open Go Go.RowKit Go.Proofs

theorem w_impl_BoxHas {w : World} {M : Nat → Prop} (hG : ARep (RArr 4 RShape) w M shapes ⟨0, 0, none⟩) (hO : ∀ b, M b → b < w.heap.size) {v0p : Value} {a_b : Box} (h0 : VRep RBox w M a_b v0p) {v1p : Value} {a_p : Packet} (h1 : VRep RPacket w M a_p v1p) {r : Bool} (h : F.impl_BoxHas a_b a_p = some r) :
    Calls Tryd.prog 28 [v0p, v1p].toArray w fun e w' => ∃ v, e = .returned v ∧ VRep RBool w' M r v ∧ BX No w w' := by
  have hC : Cx No w M w M := Cx.start hO (fun _ e => e.elim)
  refine walk (N := 17) Tryd.func28 rfl Tryd.ntmps28 rfl ?_
  refine cw_seq ?_
  refine cw_region ?_
  refine lw_op rfl rfl rfl (ow_box (R := RBox) rfl rfl h0 hC fun p1 w1 hp1 hb1 hl1 hC1 => ?_)
  refine lw_op rfl rfl rfl (ow_box (R := RPacket) rfl rfl (VRep.mono hl1 h1) hC1 fun p2 w2 hp2 hb2 hl2 hC2 => ?_)
  refine lw_op rfl rfl rfl (ow_assign rfl rfl ?_)
  refine lw_nil ?_
  refine ew_then ?_
  refine cw_seq ?_
  replace h := bind_some h
  obtain ⟨x1, hx1, h⟩ := h
  replace h := cond_some h
  rcases h with ⟨hc1, h⟩ | ⟨hc1, h⟩
  · subst hc1
    replace h := bind_some h
    obtain ⟨x2, hx2, h⟩ := h
    replace h := cond_some h
    rcases h with ⟨hc2, h⟩ | ⟨hc2, h⟩
    · subst hc2
      replace h := bind_some h
      obtain ⟨x3, hx3, h⟩ := h
      refine cw_sub (E' := [(2, (.pointer (some p1))), (3, (.pointer (some p2))), (4, (.bool false))]) ⟨rfl, rfl, rfl, trivial⟩ ?_
      refine cw_drawQ 10 [PV RBox M a_b, PEq (.bool true), PEq (.bool true), PV RPacket M a_p, PEq (.bool true), PEq (.bool true), PEq (.bool true), PV RBox M a_b, PV (RArr 4 (RSlice RSpan)) M x3, PV RPacket M a_p] (by kernel_rfl) rfl (by kernel_rfl) ⟨PV.mono _ _ _, PEq.mono _, PEq.mono _, PV.mono _ _ _, PEq.mono _, PEq.mono _, PEq.mono _, PV.mono _ _ _, PV.mono _ _ _, PV.mono _ _ _, trivial⟩ ⟨?_, ?_, ?_, ?_, ?_, ?_, ?_, ?_, ?_, ?_, trivial⟩ ?_
      · intro w6 D hS1 hd1
        have hl6 := Le.no M hS1
        have hC6 := hC2.no hS1
        refine dg_sub (E' := [(2, (.pointer (some p1)))]) ⟨rfl, trivial⟩ ?_
        refine dg_plain rfl (ow_load (R := RBox) rfl rfl (ARep.mono (hl2.trans hl6) hp1) (Tryd.sizeOf24 _) (Tryd.isAgg24 _) fun v8 hv8 => ?_)
        exact ⟨BX.refl _ _, hv8⟩
      · intro w7 D hS2 hd2
        have hl7 := Le.no M hS2
        have hC7 := hC2.no hS2
        have hd2 : PV RBox M a_b (D 0) w7 ∧ True := hd2
        obtain ⟨d1, -⟩ := hd2
        obtain ⟨v9, hq1⟩ : ∃ v, (D 0) = v := ⟨_, rfl⟩
        rw [hq1] at d1
        refine dg_sub (E' := [(5, v9)]) ⟨(congrArg some hq1), trivial⟩ ?_
        refine dg_plain rfl (ow_call rfl rfl Tryd.call23 (w_impl_BoxValid (hG.mono ((hl1.trans hl2).trans hl7)) hC7.old d1 hx1) fun v10 w8 hv10 => ?_)
        obtain ⟨hv10, hb6⟩ := hv10
        have hl8 := Le.no M hb6
        have hC8 := hC7.no hb6
        obtain rfl := vbool_eq hv10
        exact ⟨hb6, rfl⟩
      · intro w9 D hS3 hd3
        have hl9 := Le.no M hS3
        have hC9 := hC2.no hS3
        have hd3 : PEq (.bool true) (D 1) w9 ∧ PEq (.bool true) (D 1) w9 ∧ True := hd3
        obtain ⟨d2, d3, -⟩ := hd3
        refine dg_sub (E' := [(6, (.bool true))]) ⟨(congrArg some d2), trivial⟩ ?_
        refine dg_plain rfl (ow_move rfl rfl ?_)
        exact ⟨BX.refl _ _, rfl⟩
      · intro w10 D hS4 hd4
        have hl10 := Le.no M hS4
        have hC10 := hC2.no hS4
        have hd4 : PEq (.bool true) (D 2) w10 ∧ True := hd4
        obtain ⟨d4, -⟩ := hd4
        refine dg_sub (E' := [(7, (.bool true)), (3, (.pointer (some p2)))]) ⟨(congrArg some d4), rfl, trivial⟩ ?_
        refine dg_on rfl rfl rfl rfl (ow_load (R := RPacket) rfl rfl (ARep.mono hl10 hp2) (Tryd.sizeOf38 _) (Tryd.isAgg38 _) fun v11 hv11 => ?_)
        exact ⟨BX.refl _ _, hv11⟩
      · intro w11 D hS5 hd5
        have hl11 := Le.no M hS5
        have hC11 := hC2.no hS5
        have hd5 : PV RPacket M a_p (D 3) w11 ∧ PEq (.bool true) (D 2) w11 ∧ PEq (.bool true) (D 2) w11 ∧ True := hd5
        obtain ⟨d5, d6, d7, -⟩ := hd5
        obtain ⟨v12, hq2⟩ : ∃ v, (D 3) = v := ⟨_, rfl⟩
        rw [hq2] at d5
        refine dg_sub (E' := [(8, v12), (7, (.bool true))]) ⟨(congrArg some hq2), (congrArg some d6), trivial⟩ ?_
        refine dg_on rfl rfl rfl rfl (ow_call rfl rfl Tryd.call82 (w_impl_PacketValid (hG.mono ((hl1.trans hl2).trans hl11)) hC11.old d5 hx2) fun v13 w12 hv13 => ?_)
        obtain ⟨hv13, hb7⟩ := hv13
        have hl12 := Le.no M hb7
        have hC12 := hC11.no hb7
        obtain rfl := vbool_eq hv13
        exact ⟨hb7, rfl⟩
      · intro w13 D hS6 hd6
        have hl13 := Le.no M hS6
        have hC13 := hC2.no hS6
        have hd6 : PEq (.bool true) (D 2) w13 ∧ PEq (.bool true) (D 4) w13 ∧ True := hd6
        obtain ⟨d8, d9, -⟩ := hd6
        refine dg_sub (E' := [(7, (.bool true)), (9, (.bool true))]) ⟨(congrArg some d8), (congrArg some d9), trivial⟩ ?_
        refine dg_plain rfl (ow_pickT rfl rfl rfl ?_)
        exact ⟨BX.refl _ _, rfl⟩
      · intro w14 D hS7 hd7
        have hl14 := Le.no M hS7
        have hC14 := hC2.no hS7
        have hd7 : PEq (.bool true) (D 5) w14 ∧ PEq (.bool true) (D 4) w14 ∧ True := hd7
        obtain ⟨d10, d11, -⟩ := hd7
        refine dg_sub (E' := [(10, (.bool true))]) ⟨(congrArg some d10), trivial⟩ ?_
        refine dg_plain rfl (ow_move rfl rfl ?_)
        exact ⟨BX.refl _ _, rfl⟩
      · intro w15 D hS8 hd8
        have hl15 := Le.no M hS8
        have hC15 := hC2.no hS8
        have hd8 : PEq (.bool true) (D 6) w15 ∧ True := hd8
        obtain ⟨d12, -⟩ := hd8
        refine dg_sub (E' := [(11, (.bool true)), (2, (.pointer (some p1)))]) ⟨(congrArg some d12), rfl, trivial⟩ ?_
        refine dg_on rfl rfl rfl rfl (ow_load (R := RBox) rfl rfl (ARep.mono (hl2.trans hl15) hp1) (Tryd.sizeOf24 _) (Tryd.isAgg24 _) fun v14 hv14 => ?_)
        exact ⟨BX.refl _ _, hv14⟩
      · intro w16 D hS9 hd9
        have hl16 := Le.no M hS9
        have hC16 := hC2.no hS9
        have hd9 : PV RBox M a_b (D 7) w16 ∧ PEq (.bool true) (D 6) w16 ∧ PEq (.bool true) (D 6) w16 ∧ True := hd9
        obtain ⟨d13, d14, d15, -⟩ := hd9
        obtain ⟨v15, hq3⟩ : ∃ v, (D 7) = v := ⟨_, rfl⟩
        rw [hq3] at d13
        refine dg_sub (E' := [(12, v15), (11, (.bool true))]) ⟨(congrArg some hq3), (congrArg some d14), trivial⟩ ?_
        refine dg_on rfl rfl rfl rfl (ow_call rfl rfl Tryd.call77 (w_impl_sidesOf (hG.mono ((hl1.trans hl2).trans hl16)) hC16.old d13 hx3) fun v16 w17 hv16 => ?_)
        obtain ⟨hv16, hb8⟩ := hv16
        have hl17 := Le.no M hb8
        have hC17 := hC16.no hb8
        exact ⟨hb8, hv16⟩
      · intro w18 D hS10 hd10
        have hl18 := Le.no M hS10
        have hC18 := hC2.no hS10
        have hd10 : PEq (.bool true) (D 6) w18 ∧ True := hd10
        obtain ⟨d16, -⟩ := hd10
        refine dg_sub (E' := [(11, (.bool true)), (3, (.pointer (some p2)))]) ⟨(congrArg some d16), rfl, trivial⟩ ?_
        refine dg_on rfl rfl rfl rfl (ow_load (R := RPacket) rfl rfl (ARep.mono hl18 hp2) (Tryd.sizeOf38 _) (Tryd.isAgg38 _) fun v17 hv17 => ?_)
        exact ⟨BX.refl _ _, hv17⟩
      · intro w19 D hS11 hd11
        have hl19 := Le.no M hS11
        have hC19 := hC2.no hS11
        have hd11 : PV RBox M a_b (D 0) w19 ∧ PEq (.bool true) (D 1) w19 ∧ PEq (.bool true) (D 2) w19 ∧ PV RPacket M a_p (D 3) w19 ∧ PEq (.bool true) (D 4) w19 ∧ PEq (.bool true) (D 5) w19 ∧ PEq (.bool true) (D 6) w19 ∧ PV RBox M a_b (D 7) w19 ∧ PV (RArr 4 (RSlice RSpan)) M x3 (D 8) w19 ∧ PV RPacket M a_p (D 9) w19 ∧ True := hd11
        obtain ⟨-, -, -, -, -, -, d23, -, d25, d26, -⟩ := hd11
        obtain ⟨v18, hq4⟩ : ∃ v, (D 8) = v := ⟨_, rfl⟩
        rw [hq4] at d25
        obtain ⟨v19, hq5⟩ : ∃ v, (D 9) = v := ⟨_, rfl⟩
        rw [hq5] at d26
        refine lw_sub (E' := [(11, (.bool true)), (13, v18), (14, v19), (2, (.pointer (some p1))), (3, (.pointer (some p2))), (4, (.bool false))]) ⟨(congrArg some d23), (congrArg some hq4), (congrArg some hq5), rfl, rfl, rfl, trivial⟩ ?_
        replace h := bind_some h
        obtain ⟨x4, hx4, h⟩ := h
        refine lw_on rfl rfl rfl rfl rfl rfl (ow_call rfl rfl Tryd.call83 (w_impl_sides_has (hG.mono ((hl1.trans hl2).trans hl19)) hC19.old d25 d26 hx4) fun v20 w20 hv20 => ?_)
        obtain ⟨hv20, hb9⟩ := hv20
        have hl20 := Le.no M hb9
        have hC20 := hC19.no hb9
        obtain rfl := vbool_eq hv20
        refine lw_op rfl rfl rfl (ow_pickT rfl rfl rfl ?_)
        refine lw_op rfl rfl rfl (ow_assign rfl rfl ?_)
        refine lw_nil ?_
        refine ew_then ?_
        refine cw_ret ?_
        obtain rfl := Option.some.inj h
        exact ew_ret (res1 rfl (.tmp rfl)) ⟨_, rfl, ((vbool _)), hC20.bx⟩
    · subst hc2
      refine cw_sub (E' := [(2, (.pointer (some p1))), (3, (.pointer (some p2))), (4, (.bool false))]) ⟨rfl, rfl, rfl, trivial⟩ ?_
      refine cw_drawQ 10 [PV RBox M a_b, PEq (.bool true), PEq (.bool true), PV RPacket M a_p, PEq (.bool false), PEq (.bool false), PEq (.bool false), PEq undef, PEq undef, PEq undef] (by kernel_rfl) rfl (by kernel_rfl) ⟨PV.mono _ _ _, PEq.mono _, PEq.mono _, PV.mono _ _ _, PEq.mono _, PEq.mono _, PEq.mono _, PEq.mono _, PEq.mono _, PEq.mono _, trivial⟩ ⟨?_, ?_, ?_, ?_, ?_, ?_, ?_, ?_, ?_, ?_, trivial⟩ ?_
      · intro w21 D hS12 hd12
        have hl21 := Le.no M hS12
        have hC21 := hC2.no hS12
        refine dg_sub (E' := [(2, (.pointer (some p1)))]) ⟨rfl, trivial⟩ ?_
        refine dg_plain rfl (ow_load (R := RBox) rfl rfl (ARep.mono (hl2.trans hl21) hp1) (Tryd.sizeOf24 _) (Tryd.isAgg24 _) fun v21 hv21 => ?_)
        exact ⟨BX.refl _ _, hv21⟩
      · intro w22 D hS13 hd13
        have hl22 := Le.no M hS13
        have hC22 := hC2.no hS13
        have hd13 : PV RBox M a_b (D 0) w22 ∧ True := hd13
        obtain ⟨d27, -⟩ := hd13
        obtain ⟨v22, hq6⟩ : ∃ v, (D 0) = v := ⟨_, rfl⟩
        rw [hq6] at d27
        refine dg_sub (E' := [(5, v22)]) ⟨(congrArg some hq6), trivial⟩ ?_
        refine dg_plain rfl (ow_call rfl rfl Tryd.call23 (w_impl_BoxValid (hG.mono ((hl1.trans hl2).trans hl22)) hC22.old d27 hx1) fun v23 w23 hv23 => ?_)
        obtain ⟨hv23, hb10⟩ := hv23
        have hl23 := Le.no M hb10
        have hC23 := hC22.no hb10
        obtain rfl := vbool_eq hv23
        exact ⟨hb10, rfl⟩
      · intro w24 D hS14 hd14
        have hl24 := Le.no M hS14
        have hC24 := hC2.no hS14
        have hd14 : PEq (.bool true) (D 1) w24 ∧ PEq (.bool true) (D 1) w24 ∧ True := hd14
        obtain ⟨d28, d29, -⟩ := hd14
        refine dg_sub (E' := [(6, (.bool true))]) ⟨(congrArg some d28), trivial⟩ ?_
        refine dg_plain rfl (ow_move rfl rfl ?_)
        exact ⟨BX.refl _ _, rfl⟩
      · intro w25 D hS15 hd15
        have hl25 := Le.no M hS15
        have hC25 := hC2.no hS15
        have hd15 : PEq (.bool true) (D 2) w25 ∧ True := hd15
        obtain ⟨d30, -⟩ := hd15
        refine dg_sub (E' := [(7, (.bool true)), (3, (.pointer (some p2)))]) ⟨(congrArg some d30), rfl, trivial⟩ ?_
        refine dg_on rfl rfl rfl rfl (ow_load (R := RPacket) rfl rfl (ARep.mono hl25 hp2) (Tryd.sizeOf38 _) (Tryd.isAgg38 _) fun v24 hv24 => ?_)
        exact ⟨BX.refl _ _, hv24⟩
      · intro w26 D hS16 hd16
        have hl26 := Le.no M hS16
        have hC26 := hC2.no hS16
        have hd16 : PV RPacket M a_p (D 3) w26 ∧ PEq (.bool true) (D 2) w26 ∧ PEq (.bool true) (D 2) w26 ∧ True := hd16
        obtain ⟨d31, d32, d33, -⟩ := hd16
        obtain ⟨v25, hq7⟩ : ∃ v, (D 3) = v := ⟨_, rfl⟩
        rw [hq7] at d31
        refine dg_sub (E' := [(8, v25), (7, (.bool true))]) ⟨(congrArg some hq7), (congrArg some d32), trivial⟩ ?_
        refine dg_on rfl rfl rfl rfl (ow_call rfl rfl Tryd.call82 (w_impl_PacketValid (hG.mono ((hl1.trans hl2).trans hl26)) hC26.old d31 hx2) fun v26 w27 hv26 => ?_)
        obtain ⟨hv26, hb11⟩ := hv26
        have hl27 := Le.no M hb11
        have hC27 := hC26.no hb11
        obtain rfl := vbool_eq hv26
        exact ⟨hb11, rfl⟩
      · intro w28 D hS17 hd17
        have hl28 := Le.no M hS17
        have hC28 := hC2.no hS17
        have hd17 : PEq (.bool true) (D 2) w28 ∧ PEq (.bool false) (D 4) w28 ∧ True := hd17
        obtain ⟨d34, d35, -⟩ := hd17
        refine dg_sub (E' := [(7, (.bool true)), (9, (.bool false))]) ⟨(congrArg some d34), (congrArg some d35), trivial⟩ ?_
        refine dg_plain rfl (ow_pickT rfl rfl rfl ?_)
        exact ⟨BX.refl _ _, rfl⟩
      · intro w29 D hS18 hd18
        have hl29 := Le.no M hS18
        have hC29 := hC2.no hS18
        have hd18 : PEq (.bool false) (D 5) w29 ∧ PEq (.bool false) (D 4) w29 ∧ True := hd18
        obtain ⟨d36, d37, -⟩ := hd18
        refine dg_sub (E' := [(10, (.bool false))]) ⟨(congrArg some d36), trivial⟩ ?_
        refine dg_plain rfl (ow_move rfl rfl ?_)
        exact ⟨BX.refl _ _, rfl⟩
      · intro w30 D hS19 hd19
        have hl30 := Le.no M hS19
        have hC30 := hC2.no hS19
        have hd19 : PEq (.bool false) (D 6) w30 ∧ True := hd19
        obtain ⟨d38, -⟩ := hd19
        refine dg_sub (E' := [(11, (.bool false)), (2, (.pointer (some p1)))]) ⟨(congrArg some d38), rfl, trivial⟩ ?_
        exact dg_off rfl rfl rfl rfl ⟨BX.refl _ _, rfl⟩
      · intro w31 D hS20 hd20
        have hl31 := Le.no M hS20
        have hC31 := hC2.no hS20
        have hd20 : PEq undef (D 7) w31 ∧ PEq (.bool false) (D 6) w31 ∧ PEq (.bool false) (D 6) w31 ∧ True := hd20
        obtain ⟨d39, d40, d41, -⟩ := hd20
        refine dg_sub (E' := [(12, undef), (11, (.bool false))]) ⟨(congrArg some d39), (congrArg some d40), trivial⟩ ?_
        exact dg_off rfl rfl rfl rfl ⟨BX.refl _ _, rfl⟩
      · intro w32 D hS21 hd21
        have hl32 := Le.no M hS21
        have hC32 := hC2.no hS21
        have hd21 : PEq (.bool false) (D 6) w32 ∧ True := hd21
        obtain ⟨d42, -⟩ := hd21
        refine dg_sub (E' := [(11, (.bool false)), (3, (.pointer (some p2)))]) ⟨(congrArg some d42), rfl, trivial⟩ ?_
        exact dg_off rfl rfl rfl rfl ⟨BX.refl _ _, rfl⟩
      · intro w33 D hS22 hd22
        have hl33 := Le.no M hS22
        have hC33 := hC2.no hS22
        have hd22 : PV RBox M a_b (D 0) w33 ∧ PEq (.bool true) (D 1) w33 ∧ PEq (.bool true) (D 2) w33 ∧ PV RPacket M a_p (D 3) w33 ∧ PEq (.bool false) (D 4) w33 ∧ PEq (.bool false) (D 5) w33 ∧ PEq (.bool false) (D 6) w33 ∧ PEq undef (D 7) w33 ∧ PEq undef (D 8) w33 ∧ PEq undef (D 9) w33 ∧ True := hd22
        obtain ⟨-, -, -, -, -, -, d49, -, d51, d52, -⟩ := hd22
        refine lw_sub (E' := [(11, (.bool false)), (13, undef), (14, undef), (2, (.pointer (some p1))), (3, (.pointer (some p2))), (4, (.bool false))]) ⟨(congrArg some d49), (congrArg some d51), (congrArg some d52), rfl, rfl, rfl, trivial⟩ ?_
        refine lw_off rfl rfl rfl rfl rfl rfl ?_
        refine lw_op rfl rfl rfl (ow_pickF rfl rfl rfl ?_)
        refine lw_op rfl rfl rfl (ow_assign rfl rfl ?_)
        refine lw_nil ?_
        refine ew_then ?_
        refine cw_ret ?_
        obtain rfl := Option.some.inj h
        exact ew_ret (res1 rfl (.tmp rfl)) ⟨_, rfl, ((vbool _)), hC33.bx⟩
  · subst hc1
    refine cw_sub (E' := [(2, (.pointer (some p1))), (3, (.pointer (some p2))), (4, (.bool false))]) ⟨rfl, rfl, rfl, trivial⟩ ?_
    refine cw_drawQ 10 [PV RBox M a_b, PEq (.bool false), PEq (.bool false), PEq undef, PEq undef, PEq (.bool false), PEq (.bool false), PEq undef, PEq undef, PEq undef] (by kernel_rfl) rfl (by kernel_rfl) ⟨PV.mono _ _ _, PEq.mono _, PEq.mono _, PEq.mono _, PEq.mono _, PEq.mono _, PEq.mono _, PEq.mono _, PEq.mono _, PEq.mono _, trivial⟩ ⟨?_, ?_, ?_, ?_, ?_, ?_, ?_, ?_, ?_, ?_, trivial⟩ ?_
    · intro w34 D hS23 hd23
      have hl34 := Le.no M hS23
      have hC34 := hC2.no hS23
      refine dg_sub (E' := [(2, (.pointer (some p1)))]) ⟨rfl, trivial⟩ ?_
      refine dg_plain rfl (ow_load (R := RBox) rfl rfl (ARep.mono (hl2.trans hl34) hp1) (Tryd.sizeOf24 _) (Tryd.isAgg24 _) fun v27 hv27 => ?_)
      exact ⟨BX.refl _ _, hv27⟩
    · intro w35 D hS24 hd24
      have hl35 := Le.no M hS24
      have hC35 := hC2.no hS24
      have hd24 : PV RBox M a_b (D 0) w35 ∧ True := hd24
      obtain ⟨d53, -⟩ := hd24
      obtain ⟨v28, hq8⟩ : ∃ v, (D 0) = v := ⟨_, rfl⟩
      rw [hq8] at d53
      refine dg_sub (E' := [(5, v28)]) ⟨(congrArg some hq8), trivial⟩ ?_
      refine dg_plain rfl (ow_call rfl rfl Tryd.call23 (w_impl_BoxValid (hG.mono ((hl1.trans hl2).trans hl35)) hC35.old d53 hx1) fun v29 w36 hv29 => ?_)
      obtain ⟨hv29, hb12⟩ := hv29
      have hl36 := Le.no M hb12
      have hC36 := hC35.no hb12
      obtain rfl := vbool_eq hv29
      exact ⟨hb12, rfl⟩
    · intro w37 D hS25 hd25
      have hl37 := Le.no M hS25
      have hC37 := hC2.no hS25
      have hd25 : PEq (.bool false) (D 1) w37 ∧ PEq (.bool false) (D 1) w37 ∧ True := hd25
      obtain ⟨d54, d55, -⟩ := hd25
      refine dg_sub (E' := [(6, (.bool false))]) ⟨(congrArg some d54), trivial⟩ ?_
      refine dg_plain rfl (ow_move rfl rfl ?_)
      exact ⟨BX.refl _ _, rfl⟩
    · intro w38 D hS26 hd26
      have hl38 := Le.no M hS26
      have hC38 := hC2.no hS26
      have hd26 : PEq (.bool false) (D 2) w38 ∧ True := hd26
      obtain ⟨d56, -⟩ := hd26
      refine dg_sub (E' := [(7, (.bool false)), (3, (.pointer (some p2)))]) ⟨(congrArg some d56), rfl, trivial⟩ ?_
      exact dg_off rfl rfl rfl rfl ⟨BX.refl _ _, rfl⟩
    · intro w39 D hS27 hd27
      have hl39 := Le.no M hS27
      have hC39 := hC2.no hS27
      have hd27 : PEq undef (D 3) w39 ∧ PEq (.bool false) (D 2) w39 ∧ PEq (.bool false) (D 2) w39 ∧ True := hd27
      obtain ⟨d57, d58, d59, -⟩ := hd27
      refine dg_sub (E' := [(8, undef), (7, (.bool false))]) ⟨(congrArg some d57), (congrArg some d58), trivial⟩ ?_
      exact dg_off rfl rfl rfl rfl ⟨BX.refl _ _, rfl⟩
    · intro w40 D hS28 hd28
      have hl40 := Le.no M hS28
      have hC40 := hC2.no hS28
      have hd28 : PEq (.bool false) (D 2) w40 ∧ PEq undef (D 4) w40 ∧ True := hd28
      obtain ⟨d60, d61, -⟩ := hd28
      refine dg_sub (E' := [(7, (.bool false)), (9, undef)]) ⟨(congrArg some d60), (congrArg some d61), trivial⟩ ?_
      refine dg_plain rfl (ow_pickF rfl rfl rfl ?_)
      exact ⟨BX.refl _ _, rfl⟩
    · intro w41 D hS29 hd29
      have hl41 := Le.no M hS29
      have hC41 := hC2.no hS29
      have hd29 : PEq (.bool false) (D 5) w41 ∧ PEq undef (D 4) w41 ∧ True := hd29
      obtain ⟨d62, d63, -⟩ := hd29
      refine dg_sub (E' := [(10, (.bool false))]) ⟨(congrArg some d62), trivial⟩ ?_
      refine dg_plain rfl (ow_move rfl rfl ?_)
      exact ⟨BX.refl _ _, rfl⟩
    · intro w42 D hS30 hd30
      have hl42 := Le.no M hS30
      have hC42 := hC2.no hS30
      have hd30 : PEq (.bool false) (D 6) w42 ∧ True := hd30
      obtain ⟨d64, -⟩ := hd30
      refine dg_sub (E' := [(11, (.bool false)), (2, (.pointer (some p1)))]) ⟨(congrArg some d64), rfl, trivial⟩ ?_
      exact dg_off rfl rfl rfl rfl ⟨BX.refl _ _, rfl⟩
    · intro w43 D hS31 hd31
      have hl43 := Le.no M hS31
      have hC43 := hC2.no hS31
      have hd31 : PEq undef (D 7) w43 ∧ PEq (.bool false) (D 6) w43 ∧ PEq (.bool false) (D 6) w43 ∧ True := hd31
      obtain ⟨d65, d66, d67, -⟩ := hd31
      refine dg_sub (E' := [(12, undef), (11, (.bool false))]) ⟨(congrArg some d65), (congrArg some d66), trivial⟩ ?_
      exact dg_off rfl rfl rfl rfl ⟨BX.refl _ _, rfl⟩
    · intro w44 D hS32 hd32
      have hl44 := Le.no M hS32
      have hC44 := hC2.no hS32
      have hd32 : PEq (.bool false) (D 6) w44 ∧ True := hd32
      obtain ⟨d68, -⟩ := hd32
      refine dg_sub (E' := [(11, (.bool false)), (3, (.pointer (some p2)))]) ⟨(congrArg some d68), rfl, trivial⟩ ?_
      exact dg_off rfl rfl rfl rfl ⟨BX.refl _ _, rfl⟩
    · intro w45 D hS33 hd33
      have hl45 := Le.no M hS33
      have hC45 := hC2.no hS33
      have hd33 : PV RBox M a_b (D 0) w45 ∧ PEq (.bool false) (D 1) w45 ∧ PEq (.bool false) (D 2) w45 ∧ PEq undef (D 3) w45 ∧ PEq undef (D 4) w45 ∧ PEq (.bool false) (D 5) w45 ∧ PEq (.bool false) (D 6) w45 ∧ PEq undef (D 7) w45 ∧ PEq undef (D 8) w45 ∧ PEq undef (D 9) w45 ∧ True := hd33
      obtain ⟨-, -, -, -, -, -, d75, -, d77, d78, -⟩ := hd33
      refine lw_sub (E' := [(11, (.bool false)), (13, undef), (14, undef), (2, (.pointer (some p1))), (3, (.pointer (some p2))), (4, (.bool false))]) ⟨(congrArg some d75), (congrArg some d77), (congrArg some d78), rfl, rfl, rfl, trivial⟩ ?_
      refine lw_off rfl rfl rfl rfl rfl rfl ?_
      refine lw_op rfl rfl rfl (ow_pickF rfl rfl rfl ?_)
      refine lw_op rfl rfl rfl (ow_assign rfl rfl ?_)
      refine lw_nil ?_
      refine ew_then ?_
      refine cw_ret ?_
      obtain rfl := Option.some.inj h
      exact ew_ret (res1 rfl (.tmp rfl)) ⟨_, rfl, ((vbool _)), hC45.bx⟩

theorem w_spec_l1In {w : World} {M : Nat → Prop} (_hG : ARep (RArr 4 RShape) w M shapes ⟨0, 0, none⟩) (hO : ∀ b, M b → b < w.heap.size) {a_n : Int} {a_lo : Int} {a_hi : Int} {r : Bool} (h : F.spec_l1In a_n a_lo a_hi = some r) :
    Calls Tryd.prog 84 [(.int .i64 a_n), (.int .i64 a_lo), (.int .i64 a_hi)].toArray w fun e w' => ∃ v, e = .returned v ∧ VRep RBool w' M r v ∧ BX No w w' := by
  have hC : Cx No w M w M := Cx.start hO (fun _ e => e.elim)
  clear _hG
  refine walk (N := 15) Tryd.func84 rfl Tryd.ntmps84 rfl ?_
  refine cw_seq ?_
  refine cw_region ?_
  refine lw_op rfl rfl rfl (ow_assign rfl rfl ?_)
  refine lw_nil ?_
  refine ew_then ?_
  refine cw_seq ?_
  refine cw_region ?_
  refine lw_op rfl rfl rfl (ow_move rfl rfl ?_)
  refine lw_op rfl rfl rfl (ow_move rfl rfl ?_)
  refine lw_op rfl rfl rfl (ow_geq rfl rfl rfl fun bb1 hbb1 => ?_)
  refine lw_op rfl rfl rfl (ow_move rfl rfl ?_)
  replace h := cond_some h
  rcases h with ⟨hc1, h⟩ | ⟨hc1, h⟩
  · obtain rfl := hbb1.trans hc1
    refine lw_on rfl rfl rfl rfl rfl rfl (ow_move rfl rfl ?_)
    refine lw_on rfl rfl rfl rfl rfl rfl (ow_move rfl rfl ?_)
    refine lw_on rfl rfl rfl rfl rfl rfl (ow_leq rfl rfl rfl fun bb2 hbb2 => ?_)
    refine lw_op rfl rfl rfl (ow_pickT rfl rfl rfl ?_)
    refine lw_op rfl rfl rfl (ow_assign rfl rfl ?_)
    refine lw_nil ?_
    refine ew_then ?_
    refine cw_ret ?_
    obtain rfl := Option.some.inj h
    exact ew_ret (res1 rfl (.tmp rfl)) ⟨_, rfl, ((vbool_of hbb2)), hC.bx⟩
  · obtain rfl := hbb1.trans hc1
    refine lw_off rfl rfl rfl rfl rfl rfl ?_
    refine lw_off rfl rfl rfl rfl rfl rfl ?_
    refine lw_off rfl rfl rfl rfl rfl rfl ?_
    refine lw_op rfl rfl rfl (ow_pickF rfl rfl rfl ?_)
    refine lw_op rfl rfl rfl (ow_assign rfl rfl ?_)
    refine lw_nil ?_
    refine ew_then ?_
    refine cw_ret ?_
    obtain rfl := Option.some.inj h
    exact ew_ret (res1 rfl (.tmp rfl)) ⟨_, rfl, ((vbool _)), hC.bx⟩

theorem w_spec_PacketValid {w : World} {M : Nat → Prop} (hG : ARep (RArr 4 RShape) w M shapes ⟨0, 0, none⟩) (hO : ∀ b, M b → b < w.heap.size) {v0p : Value} {a_p : Packet} (h0 : VRep RPacket w M a_p v0p) {r : Bool} (h : F.spec_PacketValid a_p = some r) :
    Calls Tryd.prog 29 [v0p].toArray w fun e w' => ∃ v, e = .returned v ∧ VRep RBool w' M r v ∧ BX No w w' := by
  have hC : Cx No w M w M := Cx.start hO (fun _ e => e.elim)
  refine walk (N := 21) Tryd.func29 rfl Tryd.ntmps29 rfl ?_
  refine cw_seq ?_
  refine cw_region ?_
  refine lw_op rfl rfl rfl (ow_box (R := RPacket) rfl rfl h0 hC fun p1 w1 hp1 hb1 hl1 hC1 => ?_)
  refine lw_op rfl rfl rfl (ow_assign rfl rfl ?_)
  refine lw_nil ?_
  refine ew_then ?_
  refine cw_seq ?_
  refine cw_region ?_
  refine lw_op rfl rfl rfl (ow_fieldAddr rfl rfl Tryd.underlying38 rfl (Tryd.sizeOf3 _) ?_)
  refine lw_op rfl rfl rfl (ow_load (R := RInt) rfl rfl (hp1.fld fld_Packet_From) (Tryd.sizeOf3 _) (Tryd.isAgg3 _) fun v1 hv1 => ?_)
  obtain rfl := vint_eq hv1
  replace h := bind_some h
  obtain ⟨x1, hx1, h⟩ := h
  refine lw_op rfl rfl rfl (ow_call rfl rfl Tryd.call84 (w_spec_l1In (hG.mono hl1) hC1.old hx1) fun v2 w2 hv2 => ?_)
  obtain ⟨hv2, hb2⟩ := hv2
  have hl2 := Le.no M hb2
  have hC2 := hC1.no hb2
  obtain rfl := vbool_eq hv2
  refine lw_op rfl rfl rfl (ow_move rfl rfl ?_)
  replace h := cond_some h
  rcases h with ⟨hc1, h⟩ | ⟨hc1, h⟩
  · subst hc1
    refine lw_on rfl rfl rfl rfl rfl rfl (ow_fieldAddr rfl rfl Tryd.underlying38 rfl (Tryd.sizeOf3 _) ?_)
    refine lw_on rfl rfl rfl rfl rfl rfl (ow_load (R := RInt) rfl rfl (ARep.mono hl2 (hp1.fld fld_Packet_To)) (Tryd.sizeOf3 _) (Tryd.isAgg3 _) fun v3 hv3 => ?_)
    obtain rfl := vint_eq hv3
    replace h := bind_some h
    obtain ⟨x2, hx2, h⟩ := h
    refine lw_on rfl rfl rfl rfl rfl rfl (ow_call rfl rfl Tryd.call84 (w_spec_l1In (hG.mono (hl1.trans hl2)) hC2.old hx2) fun v4 w3 hv4 => ?_)
    obtain ⟨hv4, hb3⟩ := hv4
    have hl3 := Le.no M hb3
    have hC3 := hC2.no hb3
    obtain rfl := vbool_eq hv4
    refine lw_op rfl rfl rfl (ow_pickT rfl rfl rfl ?_)
    refine lw_op rfl rfl rfl (ow_move rfl rfl ?_)
    replace h := cond_some h
    rcases h with ⟨hc2, h⟩ | ⟨hc2, h⟩
    · subst hc2
      refine lw_on rfl rfl rfl rfl rfl rfl (ow_fieldAddr rfl rfl Tryd.underlying38 rfl (Tryd.sizeOf3 _) ?_)
      refine lw_on rfl rfl rfl rfl rfl rfl (ow_load (R := RInt) rfl rfl (ARep.mono (hl2.trans hl3) (hp1.fld fld_Packet_Port)) (Tryd.sizeOf3 _) (Tryd.isAgg3 _) fun v5 hv5 => ?_)
      obtain rfl := vint_eq hv5
      replace h := bind_some h
      obtain ⟨x3, hx3, h⟩ := h
      refine lw_on rfl rfl rfl rfl rfl rfl (ow_call rfl rfl Tryd.call84 (w_spec_l1In (hG.mono ((hl1.trans hl2).trans hl3)) hC3.old hx3) fun v6 w4 hv6 => ?_)
      obtain ⟨hv6, hb4⟩ := hv6
      have hl4 := Le.no M hb4
      have hC4 := hC3.no hb4
      obtain rfl := vbool_eq hv6
      refine lw_op rfl rfl rfl (ow_pickT rfl rfl rfl ?_)
      refine lw_op rfl rfl rfl (ow_move rfl rfl ?_)
      replace h := cond_some h
      rcases h with ⟨hc3, h⟩ | ⟨hc3, h⟩
      · subst hc3
        refine lw_on rfl rfl rfl rfl rfl rfl (ow_fieldAddr rfl rfl Tryd.underlying38 rfl (Tryd.sizeOf3 _) ?_)
        refine lw_on rfl rfl rfl rfl rfl rfl (ow_load (R := RInt) rfl rfl (ARep.mono ((hl2.trans hl3).trans hl4) (hp1.fld fld_Packet_Proto)) (Tryd.sizeOf3 _) (Tryd.isAgg3 _) fun v7 hv7 => ?_)
        obtain rfl := vint_eq hv7
        replace h := bind_some h
        obtain ⟨x4, hx4, h⟩ := h
        refine lw_on rfl rfl rfl rfl rfl rfl (ow_call rfl rfl Tryd.call84 (w_spec_l1In (hG.mono (((hl1.trans hl2).trans hl3).trans hl4)) hC4.old hx4) fun v8 w5 hv8 => ?_)
        obtain ⟨hv8, hb5⟩ := hv8
        have hl5 := Le.no M hb5
        have hC5 := hC4.no hb5
        obtain rfl := vbool_eq hv8
        refine lw_op rfl rfl rfl (ow_pickT rfl rfl rfl ?_)
        refine lw_op rfl rfl rfl (ow_assign rfl rfl ?_)
        refine lw_nil ?_
        refine ew_then ?_
        refine cw_ret ?_
        obtain rfl := Option.some.inj h
        exact ew_ret (res1 rfl (.tmp rfl)) ⟨_, rfl, ((vbool _)), hC5.bx⟩
      · subst hc3
        refine lw_off rfl rfl rfl rfl rfl rfl ?_
        refine lw_off rfl rfl rfl rfl rfl rfl ?_
        refine lw_off rfl rfl rfl rfl rfl rfl ?_
        refine lw_op rfl rfl rfl (ow_pickF rfl rfl rfl ?_)
        refine lw_op rfl rfl rfl (ow_assign rfl rfl ?_)
        refine lw_nil ?_
        refine ew_then ?_
        refine cw_ret ?_
        obtain rfl := Option.some.inj h
        exact ew_ret (res1 rfl (.tmp rfl)) ⟨_, rfl, ((vbool _)), hC4.bx⟩
    · subst hc2
      refine lw_off rfl rfl rfl rfl rfl rfl ?_
      refine lw_off rfl rfl rfl rfl rfl rfl ?_
      refine lw_off rfl rfl rfl rfl rfl rfl ?_
      refine lw_op rfl rfl rfl (ow_pickF rfl rfl rfl ?_)
      refine lw_op rfl rfl rfl (ow_move rfl rfl ?_)
      refine lw_off rfl rfl rfl rfl rfl rfl ?_
      refine lw_off rfl rfl rfl rfl rfl rfl ?_
      refine lw_off rfl rfl rfl rfl rfl rfl ?_
      refine lw_op rfl rfl rfl (ow_pickF rfl rfl rfl ?_)
      refine lw_op rfl rfl rfl (ow_assign rfl rfl ?_)
      refine lw_nil ?_
      refine ew_then ?_
      refine cw_ret ?_
      obtain rfl := Option.some.inj h
      exact ew_ret (res1 rfl (.tmp rfl)) ⟨_, rfl, ((vbool _)), hC3.bx⟩
  · subst hc1
    refine lw_off rfl rfl rfl rfl rfl rfl ?_
    refine lw_off rfl rfl rfl rfl rfl rfl ?_
    refine lw_off rfl rfl rfl rfl rfl rfl ?_
    refine lw_op rfl rfl rfl (ow_pickF rfl rfl rfl ?_)
    refine lw_op rfl rfl rfl (ow_move rfl rfl ?_)
    refine lw_off rfl rfl rfl rfl rfl rfl ?_
    refine lw_off rfl rfl rfl rfl rfl rfl ?_
    refine lw_off rfl rfl rfl rfl rfl rfl ?_
    refine lw_op rfl rfl rfl (ow_pickF rfl rfl rfl ?_)
    refine lw_op rfl rfl rfl (ow_move rfl rfl ?_)
    refine lw_off rfl rfl rfl rfl rfl rfl ?_
    refine lw_off rfl rfl rfl rfl rfl rfl ?_
    refine lw_off rfl rfl rfl rfl rfl rfl ?_
    refine lw_op rfl rfl rfl (ow_pickF rfl rfl rfl ?_)
    refine lw_op rfl rfl rfl (ow_assign rfl rfl ?_)
    refine lw_nil ?_
    refine ew_then ?_
    refine cw_ret ?_
    obtain rfl := Option.some.inj h
    exact ew_ret (res1 rfl (.tmp rfl)) ⟨_, rfl, ((vbool _)), hC2.bx⟩

theorem w_laws_alive {w : World} {M : Nat → Prop} (hG : ARep (RArr 4 RShape) w M shapes ⟨0, 0, none⟩) (hO : ∀ b, M b → b < w.heap.size)  {r : Bool} (h : F.laws_alive = some r) :
    Calls Tryd.prog 30 [].toArray w fun e w' => ∃ v, e = .returned v ∧ VRep RBool w' M r v ∧ BX No w w' := by
  have hC : Cx No w M w M := Cx.start hO (fun _ e => e.elim)
  refine walk (N := 4) Tryd.func30 rfl Tryd.ntmps30 rfl ?_
  refine cw_seq ?_
  refine cw_region ?_
  refine lw_op rfl rfl rfl (ow_assign rfl rfl ?_)
  refine lw_nil ?_
  refine ew_then ?_
  refine cw_seq ?_
  refine cw_region ?_
  refine lw_op rfl rfl rfl (ow_build (v := .agg #[(.int .i64 2), (.int .i64 4)]) rfl rfl (by kernel_rfl) ?_)
  have hw1 : VRep RSpan w M ({ Lo := 2, Hi := 4 } : Span) (.agg #[(.int .i64 2), (.int .i64 4)]) := shut_Span
  refine lw_op rfl rfl rfl (ow_buildSlice (R := RSpan) (xs := [({ Lo := 2, Hi := 4 } : Span)]) (cs := #[(.int .i64 2), (.int .i64 4)]) (e := 92) rfl rfl (by kernel_rfl) rfl rfl ⟨_, _, rfl, hw1.cells, rfl⟩ hC fun p1 w1 hw2 hb1 hl1 hC1 => ?_)
  replace h := bind_some h
  obtain ⟨x1, hx1, h⟩ := h
  refine lw_op rfl rfl rfl (ow_call rfl rfl Tryd.call85 (w_impl_SpansHave (hG.mono hl1) hC1.old hw2 hx1) fun v1 w2 hv1 => ?_)
  obtain ⟨hv1, hb2⟩ := hv1
  have hl2 := Le.no M hb2
  have hC2 := hC1.no hb2
  obtain rfl := vbool_eq hv1
  refine lw_op rfl rfl rfl (ow_assign rfl rfl ?_)
  refine lw_nil ?_
  refine ew_then ?_
  refine cw_ret ?_
  obtain rfl := Option.some.inj h
  exact ew_ret (res1 rfl (.tmp rfl)) ⟨_, rfl, ((vbool _)), hC2.bx⟩

theorem w_laws_FnBoxAll {w : World} {M : Nat → Prop} (hG : ARep (RArr 4 RShape) w M shapes ⟨0, 0, none⟩) (hO : ∀ b, M b → b < w.heap.size) {v0p : Value} {a_code : List Int} (h0 : VRep (RSlice RU8) w M a_code v0p) {r : Bool} (h : F.laws_FnBoxAll a_code = some r) :
    Calls Tryd.prog 6 [v0p].toArray w fun e w' => ∃ v, e = .returned v ∧ VRep RBool w' M r v ∧ BX No w w' := by
  have hC : Cx No w M w M := Cx.start hO (fun _ e => e.elim)
  refine walk (N := 33) Tryd.func6 rfl Tryd.ntmps6 rfl ?_
  refine cw_seq ?_
  refine cw_region ?_
  refine lw_op rfl rfl rfl (ow_assign rfl rfl ?_)
  refine lw_nil ?_
  refine ew_then ?_
  refine cw_seq ?_
  refine cw_seq ?_
  refine cw_region ?_
  refine lw_op rfl rfl rfl (ow_move rfl rfl ?_)
  refine lw_op rfl rfl rfl (ow_len rfl rfl h0 Tryd.underlying36 rfl ?_)
  refine lw_op rfl rfl rfl (ow_gtr rfl rfl rfl fun bb1 hbb1 => ?_)
  refine lw_nil ?_
  refine ew_then ?_
  replace h := cond_some h
  rcases h with ⟨hc1, h⟩ | ⟨hc1, h⟩
  · obtain rfl := hbb1.trans hc1
    refine cw_true rfl ?_
    refine cw_seq ?_
    refine cw_region ?_
    refine lw_op rfl rfl rfl (ow_assign rfl rfl ?_)
    refine lw_nil ?_
    refine ew_then ?_
    refine cw_ret ?_
    refine ew_thenR ?_
    obtain rfl := Option.some.inj h
    exact ew_ret (res1 rfl (.tmp rfl)) ⟨_, rfl, ((vbool _)), hC.bx⟩
  · obtain rfl := hbb1.trans hc1
    refine cw_false rfl ?_
    refine cw_skip ?_
    refine ew_then ?_
    refine cw_seq ?_
    refine cw_region ?_
    replace h := bind_some h
    obtain ⟨x1, hx1, h⟩ := h
    refine lw_op rfl rfl rfl (ow_call rfl rfl Tryd.call16 (w_impl_BoxAll hG hC.old hx1) fun v1 w1 hv1 => ?_)
    obtain ⟨hv1, hb1⟩ := hv1
    have hl1 := Le.no M hb1
    have hC1 := hC.no hb1
    refine lw_allocStore (R := RBox) rfl rfl rfl rfl rfl rfl rfl Tryd.zeroValue24 Tryd.sizeOf24 rfl rfl rfl (by simp) hv1 hC1 fun p1 w2 hp1 hb2 hl2 hC2 => ?_
    refine lw_nil ?_
    refine ew_then ?_
    refine cw_seq ?_
    refine cw_seq ?_
    replace h := bind_some h
    obtain ⟨x2, hx2, h⟩ := h
    refine cw_sub (E' := [(0, v0p), (2, (.bool false)), (3, (.pointer (some p1)))]) ⟨rfl, rfl, rfl, trivial⟩ ?_
    refine cw_drawQ 2 [PV RBox M x1, PV RBox M x2] (by kernel_rfl) rfl (by kernel_rfl) ⟨PV.mono _ _ _, PV.mono _ _ _, trivial⟩ ⟨?_, ?_, trivial⟩ ?_
    · intro w4 D hS1 hd1
      have hl4 := Le.no M hS1
      have hC4 := hC2.no hS1
      refine dg_sub (E' := [(3, (.pointer (some p1)))]) ⟨rfl, trivial⟩ ?_
      refine dg_plain rfl (ow_load (R := RBox) rfl rfl (ARep.mono hl4 hp1) (Tryd.sizeOf24 _) (Tryd.isAgg24 _) fun v4 hv4 => ?_)
      exact ⟨BX.refl _ _, hv4⟩
    · intro w5 D hS2 hd2
      have hl5 := Le.no M hS2
      have hC5 := hC2.no hS2
      refine dg_sub (E' := []) trivial ?_
      refine dg_plain rfl (ow_call rfl rfl Tryd.call15 (w_spec_BoxAll (hG.mono ((hl1.trans hl2).trans hl5)) hC5.old hx2) fun v5 w6 hv5 => ?_)
      obtain ⟨hv5, hb4⟩ := hv5
      have hl6 := Le.no M hb4
      have hC6 := hC5.no hb4
      exact ⟨hb4, hv5⟩
    · intro w7 D hS3 hd3
      have hl7 := Le.no M hS3
      have hC7 := hC2.no hS3
      have hd3 : PV RBox M x1 (D 0) w7 ∧ PV RBox M x2 (D 1) w7 ∧ True := hd3
      obtain ⟨d1, d2, -⟩ := hd3
      obtain ⟨v6, hq1⟩ : ∃ v, (D 0) = v := ⟨_, rfl⟩
      rw [hq1] at d1
      obtain ⟨v7, hq2⟩ : ∃ v, (D 1) = v := ⟨_, rfl⟩
      rw [hq2] at d2
      refine lw_sub (E' := [(9, v6), (10, v7), (0, v0p), (2, (.bool false)), (3, (.pointer (some p1)))]) ⟨(congrArg some hq1), (congrArg some hq2), rfl, rfl, rfl, trivial⟩ ?_
      replace h := bind_some h
      obtain ⟨x3, hx3, h⟩ := h
      refine lw_op rfl rfl rfl (ow_call rfl rfl Tryd.call26 (w_laws_sameBox (hG.mono ((hl1.trans hl2).trans hl7)) hC7.old d1 d2 hx3) fun v8 w8 hv8 => ?_)
      obtain ⟨hv8, hb5⟩ := hv8
      have hl8 := Le.no M hb5
      have hC8 := hC7.no hb5
      obtain rfl := vbool_eq hv8
      refine lw_op rfl rfl rfl (ow_not rfl rfl ?_)
      refine lw_nil ?_
      refine ew_then ?_
      replace h := cond_some h
      rcases h with ⟨hc2, h⟩ | ⟨hc2, h⟩
      · subst hc2
        refine cw_false rfl ?_
        refine cw_skip ?_
        refine ew_then ?_
        refine cw_seq ?_
        refine cw_region ?_
        refine lw_op rfl rfl rfl (ow_move rfl rfl ?_)
        replace h := bind_some h
        obtain ⟨x4, hx4, h⟩ := h
        refine lw_op rfl rfl rfl (ow_call rfl rfl Tryd.call27 (w_spec_DrawPacketValid (hG.mono (((hl1.trans hl2).trans hl7).trans hl8)) hC8.old (VRep.mono (((hl1.trans hl2).trans hl7).trans hl8) h0) hx4) fun v9 w9 hv9 => ?_)
        obtain ⟨hv9, hb6⟩ := hv9
        have hl9 := Le.no M hb6
        have hC9 := hC8.no hb6
        refine lw_allocStore (R := RPacket) rfl rfl rfl rfl rfl rfl rfl Tryd.zeroValue38 Tryd.sizeOf38 rfl rfl rfl (by simp) hv9 hC9 fun p2 w10 hp2 hb7 hl10 hC10 => ?_
        refine lw_nil ?_
        refine ew_then ?_
        refine cw_seq ?_
        replace h := bind_some h
        obtain ⟨x5, hx5, h⟩ := h
        replace h := cond_some h
        rcases h with ⟨hc3, h⟩ | ⟨hc3, h⟩
        · subst hc3
          replace h := bind_some h
          obtain ⟨x6, hx6, h⟩ := h
          replace h := cond_some h
          rcases h with ⟨hc4, h⟩ | ⟨hc4, h⟩
          · subst hc4
            refine cw_sub (E' := [(2, (.bool false)), (3, (.pointer (some p1))), (4, (.pointer (some p2)))]) ⟨rfl, rfl, rfl, trivial⟩ ?_
            refine cw_drawQ 12 [PV RBox M x1, PEq (.bool true), PEq (.bool true), PV RBox M x1, PEq (.bool true), PEq (.bool false), PEq (.bool false), PEq (.bool false), PEq undef, PEq undef, PEq undef, PEq undef] (by kernel_rfl) rfl (by kernel_rfl) ⟨PV.mono _ _ _, PEq.mono _, PEq.mono _, PV.mono _ _ _, PEq.mono _, PEq.mono _, PEq.mono _, PEq.mono _, PEq.mono _, PEq.mono _, PEq.mono _, PEq.mono _, trivial⟩ ⟨?_, ?_, ?_, ?_, ?_, ?_, ?_, ?_, ?_, ?_, ?_, ?_, trivial⟩ ?_
            · intro w13 D hS4 hd4
              have hl13 := Le.no M hS4
              have hC13 := hC10.no hS4
              refine dg_sub (E' := [(3, (.pointer (some p1)))]) ⟨rfl, trivial⟩ ?_
              refine dg_plain rfl (ow_load (R := RBox) rfl rfl (ARep.mono ((((hl7.trans hl8).trans hl9).trans hl10).trans hl13) hp1) (Tryd.sizeOf24 _) (Tryd.isAgg24 _) fun v14 hv14 => ?_)
              exact ⟨BX.refl _ _, hv14⟩
            · intro w14 D hS5 hd5
              have hl14 := Le.no M hS5
              have hC14 := hC10.no hS5
              have hd5 : PV RBox M x1 (D 0) w14 ∧ True := hd5
              obtain ⟨d3, -⟩ := hd5
              obtain ⟨v15, hq3⟩ : ∃ v, (D 0) = v := ⟨_, rfl⟩
              rw [hq3] at d3
              refine dg_sub (E' := [(15, v15)]) ⟨(congrArg some hq3), trivial⟩ ?_
              refine dg_plain rfl (ow_call rfl rfl Tryd.call23 (w_impl_BoxValid (hG.mono ((((((hl1.trans hl2).trans hl7).trans hl8).trans hl9).trans hl10).trans hl14)) hC14.old d3 hx5) fun v16 w15 hv16 => ?_)
              obtain ⟨hv16, hb10⟩ := hv16
              have hl15 := Le.no M hb10
              have hC15 := hC14.no hb10
              obtain rfl := vbool_eq hv16
              exact ⟨hb10, rfl⟩
            · intro w16 D hS6 hd6
              have hl16 := Le.no M hS6
              have hC16 := hC10.no hS6
              have hd6 : PEq (.bool true) (D 1) w16 ∧ PEq (.bool true) (D 1) w16 ∧ True := hd6
              obtain ⟨d4, d5, -⟩ := hd6
              refine dg_sub (E' := [(16, (.bool true))]) ⟨(congrArg some d4), trivial⟩ ?_
              refine dg_plain rfl (ow_move rfl rfl ?_)
              exact ⟨BX.refl _ _, rfl⟩
            · intro w17 D hS7 hd7
              have hl17 := Le.no M hS7
              have hC17 := hC10.no hS7
              have hd7 : PEq (.bool true) (D 2) w17 ∧ True := hd7
              obtain ⟨d6, -⟩ := hd7
              refine dg_sub (E' := [(17, (.bool true)), (3, (.pointer (some p1)))]) ⟨(congrArg some d6), rfl, trivial⟩ ?_
              refine dg_on rfl rfl rfl rfl (ow_load (R := RBox) rfl rfl (ARep.mono ((((hl7.trans hl8).trans hl9).trans hl10).trans hl17) hp1) (Tryd.sizeOf24 _) (Tryd.isAgg24 _) fun v17 hv17 => ?_)
              exact ⟨BX.refl _ _, hv17⟩
            · intro w18 D hS8 hd8
              have hl18 := Le.no M hS8
              have hC18 := hC10.no hS8
              have hd8 : PV RBox M x1 (D 3) w18 ∧ PEq (.bool true) (D 2) w18 ∧ PEq (.bool true) (D 2) w18 ∧ True := hd8
              obtain ⟨d7, d8, d9, -⟩ := hd8
              obtain ⟨v18, hq4⟩ : ∃ v, (D 3) = v := ⟨_, rfl⟩
              rw [hq4] at d7
              refine dg_sub (E' := [(18, v18), (17, (.bool true))]) ⟨(congrArg some hq4), (congrArg some d8), trivial⟩ ?_
              refine dg_on rfl rfl rfl rfl (ow_call rfl rfl Tryd.call25 (w_impl_BoxEmpty (hG.mono ((((((hl1.trans hl2).trans hl7).trans hl8).trans hl9).trans hl10).trans hl18)) hC18.old d7 hx6) fun v19 w19 hv19 => ?_)
              obtain ⟨hv19, hb11⟩ := hv19
              have hl19 := Le.no M hb11
              have hC19 := hC18.no hb11
              obtain rfl := vbool_eq hv19
              exact ⟨hb11, rfl⟩
            · intro w20 D hS9 hd9
              have hl20 := Le.no M hS9
              have hC20 := hC10.no hS9
              have hd9 : PEq (.bool true) (D 4) w20 ∧ PEq (.bool true) (D 2) w20 ∧ True := hd9
              obtain ⟨d10, d11, -⟩ := hd9
              refine dg_sub (E' := [(19, (.bool true)), (17, (.bool true))]) ⟨(congrArg some d10), (congrArg some d11), trivial⟩ ?_
              refine dg_on rfl rfl rfl rfl (ow_not rfl rfl ?_)
              exact ⟨BX.refl _ _, rfl⟩
            · intro w21 D hS10 hd10
              have hl21 := Le.no M hS10
              have hC21 := hC10.no hS10
              have hd10 : PEq (.bool true) (D 2) w21 ∧ PEq (.bool false) (D 5) w21 ∧ True := hd10
              obtain ⟨d12, d13, -⟩ := hd10
              refine dg_sub (E' := [(17, (.bool true)), (20, (.bool false))]) ⟨(congrArg some d12), (congrArg some d13), trivial⟩ ?_
              refine dg_plain rfl (ow_pickT rfl rfl rfl ?_)
              exact ⟨BX.refl _ _, rfl⟩
            · intro w22 D hS11 hd11
              have hl22 := Le.no M hS11
              have hC22 := hC10.no hS11
              have hd11 : PEq (.bool false) (D 6) w22 ∧ PEq (.bool true) (D 4) w22 ∧ True := hd11
              obtain ⟨d14, d15, -⟩ := hd11
              refine dg_sub (E' := [(21, (.bool false))]) ⟨(congrArg some d14), trivial⟩ ?_
              refine dg_plain rfl (ow_move rfl rfl ?_)
              exact ⟨BX.refl _ _, rfl⟩
            · intro w23 D hS12 hd12
              have hl23 := Le.no M hS12
              have hC23 := hC10.no hS12
              have hd12 : PEq (.bool false) (D 7) w23 ∧ True := hd12
              obtain ⟨d16, -⟩ := hd12
              refine dg_sub (E' := [(22, (.bool false)), (3, (.pointer (some p1)))]) ⟨(congrArg some d16), rfl, trivial⟩ ?_
              exact dg_off rfl rfl rfl rfl ⟨BX.refl _ _, rfl⟩
            · intro w24 D hS13 hd13
              have hl24 := Le.no M hS13
              have hC24 := hC10.no hS13
              have hd13 : PEq (.bool false) (D 7) w24 ∧ True := hd13
              obtain ⟨d17, -⟩ := hd13
              refine dg_sub (E' := [(22, (.bool false)), (4, (.pointer (some p2)))]) ⟨(congrArg some d17), rfl, trivial⟩ ?_
              exact dg_off rfl rfl rfl rfl ⟨BX.refl _ _, rfl⟩
            · intro w25 D hS14 hd14
              have hl25 := Le.no M hS14
              have hC25 := hC10.no hS14
              have hd14 : PEq undef (D 8) w25 ∧ PEq undef (D 9) w25 ∧ PEq (.bool false) (D 7) w25 ∧ PEq (.bool false) (D 7) w25 ∧ True := hd14
              obtain ⟨d18, d19, d20, d21, -⟩ := hd14
              refine dg_sub (E' := [(23, undef), (24, undef), (22, (.bool false))]) ⟨(congrArg some d18), (congrArg some d19), (congrArg some d20), trivial⟩ ?_
              exact dg_off rfl rfl rfl rfl ⟨BX.refl _ _, rfl⟩
            · intro w26 D hS15 hd15
              have hl26 := Le.no M hS15
              have hC26 := hC10.no hS15
              have hd15 : PEq (.bool false) (D 7) w26 ∧ True := hd15
              obtain ⟨d22, -⟩ := hd15
              refine dg_sub (E' := [(22, (.bool false)), (4, (.pointer (some p2)))]) ⟨(congrArg some d22), rfl, trivial⟩ ?_
              exact dg_off rfl rfl rfl rfl ⟨BX.refl _ _, rfl⟩
            · intro w27 D hS16 hd16
              have hl27 := Le.no M hS16
              have hC27 := hC10.no hS16
              have hd16 : PV RBox M x1 (D 0) w27 ∧ PEq (.bool true) (D 1) w27 ∧ PEq (.bool true) (D 2) w27 ∧ PV RBox M x1 (D 3) w27 ∧ PEq (.bool true) (D 4) w27 ∧ PEq (.bool false) (D 5) w27 ∧ PEq (.bool false) (D 6) w27 ∧ PEq (.bool false) (D 7) w27 ∧ PEq undef (D 8) w27 ∧ PEq undef (D 9) w27 ∧ PEq undef (D 10) w27 ∧ PEq undef (D 11) w27 ∧ True := hd16
              obtain ⟨-, -, -, -, -, -, -, d30, -, -, d33, d34, -⟩ := hd16
              refine lw_sub (E' := [(22, (.bool false)), (25, undef), (26, undef), (2, (.bool false)), (3, (.pointer (some p1))), (4, (.pointer (some p2)))]) ⟨(congrArg some d30), (congrArg some d33), (congrArg some d34), rfl, rfl, rfl, trivial⟩ ?_
              refine lw_off rfl rfl rfl rfl rfl rfl ?_
              refine lw_off rfl rfl rfl rfl rfl rfl ?_
              refine lw_op rfl rfl rfl (ow_pickF rfl rfl rfl ?_)
              refine lw_op rfl rfl rfl (ow_move rfl rfl ?_)
              refine lw_off rfl rfl rfl rfl rfl rfl ?_
              refine lw_op rfl rfl rfl (ow_pickF rfl rfl rfl ?_)
              refine lw_op rfl rfl rfl (ow_assign rfl rfl ?_)
              refine lw_nil ?_
              refine ew_then ?_
              refine cw_ret ?_
              obtain rfl := Option.some.inj h
              exact ew_ret (res1 rfl (.tmp rfl)) ⟨_, rfl, ((vbool _)), hC27.bx⟩
          · subst hc4
            replace h := bind_some h
            obtain ⟨x7, hx7, h⟩ := h
            refine cw_sub (E' := [(2, (.bool false)), (3, (.pointer (some p1))), (4, (.pointer (some p2)))]) ⟨rfl, rfl, rfl, trivial⟩ ?_
            refine cw_drawQ 12 [PV RBox M x1, PEq (.bool true), PEq (.bool true), PV RBox M x1, PEq (.bool false), PEq (.bool true), PEq (.bool true), PEq (.bool true), PV RBox M x1, PV RPacket M x4, PEq (.bool x7), PV RPacket M x4] (by kernel_rfl) rfl (by kernel_rfl) ⟨PV.mono _ _ _, PEq.mono _, PEq.mono _, PV.mono _ _ _, PEq.mono _, PEq.mono _, PEq.mono _, PEq.mono _, PV.mono _ _ _, PV.mono _ _ _, PEq.mono _, PV.mono _ _ _, trivial⟩ ⟨?_, ?_, ?_, ?_, ?_, ?_, ?_, ?_, ?_, ?_, ?_, ?_, trivial⟩ ?_
            · intro w29 D hS17 hd17
              have hl29 := Le.no M hS17
              have hC29 := hC10.no hS17
              refine dg_sub (E' := [(3, (.pointer (some p1)))]) ⟨rfl, trivial⟩ ?_
              refine dg_plain rfl (ow_load (R := RBox) rfl rfl (ARep.mono ((((hl7.trans hl8).trans hl9).trans hl10).trans hl29) hp1) (Tryd.sizeOf24 _) (Tryd.isAgg24 _) fun v24 hv24 => ?_)
              exact ⟨BX.refl _ _, hv24⟩
            · intro w30 D hS18 hd18
              have hl30 := Le.no M hS18
              have hC30 := hC10.no hS18
              have hd18 : PV RBox M x1 (D 0) w30 ∧ True := hd18
              obtain ⟨d35, -⟩ := hd18
              obtain ⟨v25, hq5⟩ : ∃ v, (D 0) = v := ⟨_, rfl⟩
              rw [hq5] at d35
              refine dg_sub (E' := [(15, v25)]) ⟨(congrArg some hq5), trivial⟩ ?_
              refine dg_plain rfl (ow_call rfl rfl Tryd.call23 (w_impl_BoxValid (hG.mono ((((((hl1.trans hl2).trans hl7).trans hl8).trans hl9).trans hl10).trans hl30)) hC30.old d35 hx5) fun v26 w31 hv26 => ?_)
              obtain ⟨hv26, hb13⟩ := hv26
              have hl31 := Le.no M hb13
              have hC31 := hC30.no hb13
              obtain rfl := vbool_eq hv26
              exact ⟨hb13, rfl⟩
            · intro w32 D hS19 hd19
              have hl32 := Le.no M hS19
              have hC32 := hC10.no hS19
              have hd19 : PEq (.bool true) (D 1) w32 ∧ PEq (.bool true) (D 1) w32 ∧ True := hd19
              obtain ⟨d36, d37, -⟩ := hd19
              refine dg_sub (E' := [(16, (.bool true))]) ⟨(congrArg some d36), trivial⟩ ?_
              refine dg_plain rfl (ow_move rfl rfl ?_)
              exact ⟨BX.refl _ _, rfl⟩
            · intro w33 D hS20 hd20
              have hl33 := Le.no M hS20
              have hC33 := hC10.no hS20
              have hd20 : PEq (.bool true) (D 2) w33 ∧ True := hd20
              obtain ⟨d38, -⟩ := hd20
              refine dg_sub (E' := [(17, (.bool true)), (3, (.pointer (some p1)))]) ⟨(congrArg some d38), rfl, trivial⟩ ?_
              refine dg_on rfl rfl rfl rfl (ow_load (R := RBox) rfl rfl (ARep.mono ((((hl7.trans hl8).trans hl9).trans hl10).trans hl33) hp1) (Tryd.sizeOf24 _) (Tryd.isAgg24 _) fun v27 hv27 => ?_)
              exact ⟨BX.refl _ _, hv27⟩
            · intro w34 D hS21 hd21
              have hl34 := Le.no M hS21
              have hC34 := hC10.no hS21
              have hd21 : PV RBox M x1 (D 3) w34 ∧ PEq (.bool true) (D 2) w34 ∧ PEq (.bool true) (D 2) w34 ∧ True := hd21
              obtain ⟨d39, d40, d41, -⟩ := hd21
              obtain ⟨v28, hq6⟩ : ∃ v, (D 3) = v := ⟨_, rfl⟩
              rw [hq6] at d39
              refine dg_sub (E' := [(18, v28), (17, (.bool true))]) ⟨(congrArg some hq6), (congrArg some d40), trivial⟩ ?_
              refine dg_on rfl rfl rfl rfl (ow_call rfl rfl Tryd.call25 (w_impl_BoxEmpty (hG.mono ((((((hl1.trans hl2).trans hl7).trans hl8).trans hl9).trans hl10).trans hl34)) hC34.old d39 hx6) fun v29 w35 hv29 => ?_)
              obtain ⟨hv29, hb14⟩ := hv29
              have hl35 := Le.no M hb14
              have hC35 := hC34.no hb14
              obtain rfl := vbool_eq hv29
              exact ⟨hb14, rfl⟩
            · intro w36 D hS22 hd22
              have hl36 := Le.no M hS22
              have hC36 := hC10.no hS22
              have hd22 : PEq (.bool false) (D 4) w36 ∧ PEq (.bool true) (D 2) w36 ∧ True := hd22
              obtain ⟨d42, d43, -⟩ := hd22
              refine dg_sub (E' := [(19, (.bool false)), (17, (.bool true))]) ⟨(congrArg some d42), (congrArg some d43), trivial⟩ ?_
              refine dg_on rfl rfl rfl rfl (ow_not rfl rfl ?_)
              exact ⟨BX.refl _ _, rfl⟩
            · intro w37 D hS23 hd23
              have hl37 := Le.no M hS23
              have hC37 := hC10.no hS23
              have hd23 : PEq (.bool true) (D 2) w37 ∧ PEq (.bool true) (D 5) w37 ∧ True := hd23
              obtain ⟨d44, d45, -⟩ := hd23
              refine dg_sub (E' := [(17, (.bool true)), (20, (.bool true))]) ⟨(congrArg some d44), (congrArg some d45), trivial⟩ ?_
              refine dg_plain rfl (ow_pickT rfl rfl rfl ?_)
              exact ⟨BX.refl _ _, rfl⟩
            · intro w38 D hS24 hd24
              have hl38 := Le.no M hS24
              have hC38 := hC10.no hS24
              have hd24 : PEq (.bool true) (D 6) w38 ∧ PEq (.bool false) (D 4) w38 ∧ True := hd24
              obtain ⟨d46, d47, -⟩ := hd24
              refine dg_sub (E' := [(21, (.bool true))]) ⟨(congrArg some d46), trivial⟩ ?_
              refine dg_plain rfl (ow_move rfl rfl ?_)
              exact ⟨BX.refl _ _, rfl⟩
            · intro w39 D hS25 hd25
              have hl39 := Le.no M hS25
              have hC39 := hC10.no hS25
              have hd25 : PEq (.bool true) (D 7) w39 ∧ True := hd25
              obtain ⟨d48, -⟩ := hd25
              refine dg_sub (E' := [(22, (.bool true)), (3, (.pointer (some p1)))]) ⟨(congrArg some d48), rfl, trivial⟩ ?_
              refine dg_on rfl rfl rfl rfl (ow_load (R := RBox) rfl rfl (ARep.mono ((((hl7.trans hl8).trans hl9).trans hl10).trans hl39) hp1) (Tryd.sizeOf24 _) (Tryd.isAgg24 _) fun v30 hv30 => ?_)
              exact ⟨BX.refl _ _, hv30⟩
            · intro w40 D hS26 hd26
              have hl40 := Le.no M hS26
              have hC40 := hC10.no hS26
              have hd26 : PEq (.bool true) (D 7) w40 ∧ True := hd26
              obtain ⟨d49, -⟩ := hd26
              refine dg_sub (E' := [(22, (.bool true)), (4, (.pointer (some p2)))]) ⟨(congrArg some d49), rfl, trivial⟩ ?_
              refine dg_on rfl rfl rfl rfl (ow_load (R := RPacket) rfl rfl (ARep.mono hl40 hp2) (Tryd.sizeOf38 _) (Tryd.isAgg38 _) fun v31 hv31 => ?_)
              exact ⟨BX.refl _ _, hv31⟩
            · intro w41 D hS27 hd27
              have hl41 := Le.no M hS27
              have hC41 := hC10.no hS27
              have hd27 : PV RBox M x1 (D 8) w41 ∧ PV RPacket M x4 (D 9) w41 ∧ PEq (.bool true) (D 7) w41 ∧ PEq (.bool true) (D 7) w41 ∧ True := hd27
              obtain ⟨d50, d51, d52, d53, -⟩ := hd27
              obtain ⟨v32, hq7⟩ : ∃ v, (D 8) = v := ⟨_, rfl⟩
              rw [hq7] at d50
              obtain ⟨v33, hq8⟩ : ∃ v, (D 9) = v := ⟨_, rfl⟩
              rw [hq8] at d51
              refine dg_sub (E' := [(23, v32), (24, v33), (22, (.bool true))]) ⟨(congrArg some hq7), (congrArg some hq8), (congrArg some d52), trivial⟩ ?_
              refine dg_on rfl rfl rfl rfl (ow_call rfl rfl Tryd.call28 (w_impl_BoxHas (hG.mono ((((((hl1.trans hl2).trans hl7).trans hl8).trans hl9).trans hl10).trans hl41)) hC41.old d50 d51 hx7) fun v34 w42 hv34 => ?_)
              obtain ⟨hv34, hb15⟩ := hv34
              have hl42 := Le.no M hb15
              have hC42 := hC41.no hb15
              obtain rfl := vbool_eq hv34
              exact ⟨hb15, rfl⟩
            · intro w43 D hS28 hd28
              have hl43 := Le.no M hS28
              have hC43 := hC10.no hS28
              have hd28 : PEq (.bool true) (D 7) w43 ∧ True := hd28
              obtain ⟨d54, -⟩ := hd28
              refine dg_sub (E' := [(22, (.bool true)), (4, (.pointer (some p2)))]) ⟨(congrArg some d54), rfl, trivial⟩ ?_
              refine dg_on rfl rfl rfl rfl (ow_load (R := RPacket) rfl rfl (ARep.mono hl43 hp2) (Tryd.sizeOf38 _) (Tryd.isAgg38 _) fun v35 hv35 => ?_)
              exact ⟨BX.refl _ _, hv35⟩
            · intro w44 D hS29 hd29
              have hl44 := Le.no M hS29
              have hC44 := hC10.no hS29
              have hd29 : PV RBox M x1 (D 0) w44 ∧ PEq (.bool true) (D 1) w44 ∧ PEq (.bool true) (D 2) w44 ∧ PV RBox M x1 (D 3) w44 ∧ PEq (.bool false) (D 4) w44 ∧ PEq (.bool true) (D 5) w44 ∧ PEq (.bool true) (D 6) w44 ∧ PEq (.bool true) (D 7) w44 ∧ PV RBox M x1 (D 8) w44 ∧ PV RPacket M x4 (D 9) w44 ∧ PEq (.bool x7) (D 10) w44 ∧ PV RPacket M x4 (D 11) w44 ∧ True := hd29
              obtain ⟨-, -, -, -, -, -, -, d62, -, -, d65, d66, -⟩ := hd29
              obtain ⟨bb2, hq9, hq10⟩ : ∃ b, b = x7 ∧ (D 10) = .bool b := ⟨_, rfl, d65⟩
              obtain ⟨v36, hq11⟩ : ∃ v, (D 11) = v := ⟨_, rfl⟩
              rw [hq11] at d66
              refine lw_sub (E' := [(22, (.bool true)), (25, (.bool bb2)), (26, v36), (2, (.bool false)), (3, (.pointer (some p1))), (4, (.pointer (some p2)))]) ⟨(congrArg some d62), (congrArg some hq10), (congrArg some hq11), rfl, rfl, rfl, trivial⟩ ?_
              replace h := bind_some h
              obtain ⟨x8, hx8, h⟩ := h
              refine lw_on rfl rfl rfl rfl rfl rfl (ow_call rfl rfl Tryd.call29 (w_spec_PacketValid (hG.mono ((((((hl1.trans hl2).trans hl7).trans hl8).trans hl9).trans hl10).trans hl44)) hC44.old d66 hx8) fun v37 w45 hv37 => ?_)
              obtain ⟨hv37, hb16⟩ := hv37
              have hl45 := Le.no M hb16
              have hC45 := hC44.no hb16
              obtain rfl := vbool_eq hv37
              refine lw_on rfl rfl rfl rfl rfl rfl (ow_eqlB rfl rfl rfl Tryd.underlying4 fun bb3 hbb3 => ?_)
              have hbb3' : bb3 = (x7 == x8) := hbb3.trans (by rw [hq9])
              refine lw_op rfl rfl rfl (ow_pickT rfl rfl rfl ?_)
              refine lw_op rfl rfl rfl (ow_move rfl rfl ?_)
              replace h := cond_some h
              rcases h with ⟨hc5, h⟩ | ⟨hc5, h⟩
              · obtain rfl := hbb3'.trans hc5
                replace h := bind_some h
                obtain ⟨x9, hx9, h⟩ := h
                refine lw_on rfl rfl rfl rfl rfl rfl (ow_call rfl rfl Tryd.call30 (w_laws_alive (hG.mono (((((((hl1.trans hl2).trans hl7).trans hl8).trans hl9).trans hl10).trans hl44).trans hl45)) hC45.old hx9) fun v38 w46 hv38 => ?_)
                obtain ⟨hv38, hb17⟩ := hv38
                have hl46 := Le.no M hb17
                have hC46 := hC45.no hb17
                obtain rfl := vbool_eq hv38
                refine lw_op rfl rfl rfl (ow_pickT rfl rfl rfl ?_)
                refine lw_op rfl rfl rfl (ow_assign rfl rfl ?_)
                refine lw_nil ?_
                refine ew_then ?_
                refine cw_ret ?_
                obtain rfl := Option.some.inj h
                exact ew_ret (res1 rfl (.tmp rfl)) ⟨_, rfl, ((vbool _)), hC46.bx⟩
              · obtain rfl := hbb3'.trans hc5
                refine lw_off rfl rfl rfl rfl rfl rfl ?_
                refine lw_op rfl rfl rfl (ow_pickF rfl rfl rfl ?_)
                refine lw_op rfl rfl rfl (ow_assign rfl rfl ?_)
                refine lw_nil ?_
                refine ew_then ?_
                refine cw_ret ?_
                obtain rfl := Option.some.inj h
                exact ew_ret (res1 rfl (.tmp rfl)) ⟨_, rfl, ((vbool _)), hC45.bx⟩
        · subst hc3
          refine cw_sub (E' := [(2, (.bool false)), (3, (.pointer (some p1))), (4, (.pointer (some p2)))]) ⟨rfl, rfl, rfl, trivial⟩ ?_
          refine cw_drawQ 12 [PV RBox M x1, PEq (.bool false), PEq (.bool false), PEq undef, PEq undef, PEq undef, PEq (.bool false), PEq (.bool false), PEq undef, PEq undef, PEq undef, PEq undef] (by kernel_rfl) rfl (by kernel_rfl) ⟨PV.mono _ _ _, PEq.mono _, PEq.mono _, PEq.mono _, PEq.mono _, PEq.mono _, PEq.mono _, PEq.mono _, PEq.mono _, PEq.mono _, PEq.mono _, PEq.mono _, trivial⟩ ⟨?_, ?_, ?_, ?_, ?_, ?_, ?_, ?_, ?_, ?_, ?_, ?_, trivial⟩ ?_
          · intro w47 D hS30 hd30
            have hl47 := Le.no M hS30
            have hC47 := hC10.no hS30
            refine dg_sub (E' := [(3, (.pointer (some p1)))]) ⟨rfl, trivial⟩ ?_
            refine dg_plain rfl (ow_load (R := RBox) rfl rfl (ARep.mono ((((hl7.trans hl8).trans hl9).trans hl10).trans hl47) hp1) (Tryd.sizeOf24 _) (Tryd.isAgg24 _) fun v39 hv39 => ?_)
            exact ⟨BX.refl _ _, hv39⟩
          · intro w48 D hS31 hd31
            have hl48 := Le.no M hS31
            have hC48 := hC10.no hS31
            have hd31 : PV RBox M x1 (D 0) w48 ∧ True := hd31
            obtain ⟨d67, -⟩ := hd31
            obtain ⟨v40, hq12⟩ : ∃ v, (D 0) = v := ⟨_, rfl⟩
            rw [hq12] at d67
            refine dg_sub (E' := [(15, v40)]) ⟨(congrArg some hq12), trivial⟩ ?_
            refine dg_plain rfl (ow_call rfl rfl Tryd.call23 (w_impl_BoxValid (hG.mono ((((((hl1.trans hl2).trans hl7).trans hl8).trans hl9).trans hl10).trans hl48)) hC48.old d67 hx5) fun v41 w49 hv41 => ?_)
            obtain ⟨hv41, hb18⟩ := hv41
            have hl49 := Le.no M hb18
            have hC49 := hC48.no hb18
            obtain rfl := vbool_eq hv41
            exact ⟨hb18, rfl⟩
          · intro w50 D hS32 hd32
            have hl50 := Le.no M hS32
            have hC50 := hC10.no hS32
            have hd32 : PEq (.bool false) (D 1) w50 ∧ PEq (.bool false) (D 1) w50 ∧ True := hd32
            obtain ⟨d68, d69, -⟩ := hd32
            refine dg_sub (E' := [(16, (.bool false))]) ⟨(congrArg some d68), trivial⟩ ?_
            refine dg_plain rfl (ow_move rfl rfl ?_)
            exact ⟨BX.refl _ _, rfl⟩
          · intro w51 D hS33 hd33
            have hl51 := Le.no M hS33
            have hC51 := hC10.no hS33
            have hd33 : PEq (.bool false) (D 2) w51 ∧ True := hd33
            obtain ⟨d70, -⟩ := hd33
            refine dg_sub (E' := [(17, (.bool false)), (3, (.pointer (some p1)))]) ⟨(congrArg some d70), rfl, trivial⟩ ?_
            exact dg_off rfl rfl rfl rfl ⟨BX.refl _ _, rfl⟩
          · intro w52 D hS34 hd34
            have hl52 := Le.no M hS34
            have hC52 := hC10.no hS34
            have hd34 : PEq undef (D 3) w52 ∧ PEq (.bool false) (D 2) w52 ∧ PEq (.bool false) (D 2) w52 ∧ True := hd34
            obtain ⟨d71, d72, d73, -⟩ := hd34
            refine dg_sub (E' := [(18, undef), (17, (.bool false))]) ⟨(congrArg some d71), (congrArg some d72), trivial⟩ ?_
            exact dg_off rfl rfl rfl rfl ⟨BX.refl _ _, rfl⟩
          · intro w53 D hS35 hd35
            have hl53 := Le.no M hS35
            have hC53 := hC10.no hS35
            have hd35 : PEq undef (D 4) w53 ∧ PEq (.bool false) (D 2) w53 ∧ True := hd35
            obtain ⟨d74, d75, -⟩ := hd35
            refine dg_sub (E' := [(19, undef), (17, (.bool false))]) ⟨(congrArg some d74), (congrArg some d75), trivial⟩ ?_
            exact dg_off rfl rfl rfl rfl ⟨BX.refl _ _, rfl⟩
          · intro w54 D hS36 hd36
            have hl54 := Le.no M hS36
            have hC54 := hC10.no hS36
            have hd36 : PEq (.bool false) (D 2) w54 ∧ PEq undef (D 5) w54 ∧ True := hd36
            obtain ⟨d76, d77, -⟩ := hd36
            refine dg_sub (E' := [(17, (.bool false)), (20, undef)]) ⟨(congrArg some d76), (congrArg some d77), trivial⟩ ?_
            refine dg_plain rfl (ow_pickF rfl rfl rfl ?_)
            exact ⟨BX.refl _ _, rfl⟩
          · intro w55 D hS37 hd37
            have hl55 := Le.no M hS37
            have hC55 := hC10.no hS37
            have hd37 : PEq (.bool false) (D 6) w55 ∧ PEq undef (D 4) w55 ∧ True := hd37
            obtain ⟨d78, d79, -⟩ := hd37
            refine dg_sub (E' := [(21, (.bool false))]) ⟨(congrArg some d78), trivial⟩ ?_
            refine dg_plain rfl (ow_move rfl rfl ?_)
            exact ⟨BX.refl _ _, rfl⟩
          · intro w56 D hS38 hd38
            have hl56 := Le.no M hS38
            have hC56 := hC10.no hS38
            have hd38 : PEq (.bool false) (D 7) w56 ∧ True := hd38
            obtain ⟨d80, -⟩ := hd38
            refine dg_sub (E' := [(22, (.bool false)), (3, (.pointer (some p1)))]) ⟨(congrArg some d80), rfl, trivial⟩ ?_
            exact dg_off rfl rfl rfl rfl ⟨BX.refl _ _, rfl⟩
          · intro w57 D hS39 hd39
            have hl57 := Le.no M hS39
            have hC57 := hC10.no hS39
            have hd39 : PEq (.bool false) (D 7) w57 ∧ True := hd39
            obtain ⟨d81, -⟩ := hd39
            refine dg_sub (E' := [(22, (.bool false)), (4, (.pointer (some p2)))]) ⟨(congrArg some d81), rfl, trivial⟩ ?_
            exact dg_off rfl rfl rfl rfl ⟨BX.refl _ _, rfl⟩
          · intro w58 D hS40 hd40
            have hl58 := Le.no M hS40
            have hC58 := hC10.no hS40
            have hd40 : PEq undef (D 8) w58 ∧ PEq undef (D 9) w58 ∧ PEq (.bool false) (D 7) w58 ∧ PEq (.bool false) (D 7) w58 ∧ True := hd40
            obtain ⟨d82, d83, d84, d85, -⟩ := hd40
            refine dg_sub (E' := [(23, undef), (24, undef), (22, (.bool false))]) ⟨(congrArg some d82), (congrArg some d83), (congrArg some d84), trivial⟩ ?_
            exact dg_off rfl rfl rfl rfl ⟨BX.refl _ _, rfl⟩
          · intro w59 D hS41 hd41
            have hl59 := Le.no M hS41
            have hC59 := hC10.no hS41
            have hd41 : PEq (.bool false) (D 7) w59 ∧ True := hd41
            obtain ⟨d86, -⟩ := hd41
            refine dg_sub (E' := [(22, (.bool false)), (4, (.pointer (some p2)))]) ⟨(congrArg some d86), rfl, trivial⟩ ?_
            exact dg_off rfl rfl rfl rfl ⟨BX.refl _ _, rfl⟩
          · intro w60 D hS42 hd42
            have hl60 := Le.no M hS42
            have hC60 := hC10.no hS42
            have hd42 : PV RBox M x1 (D 0) w60 ∧ PEq (.bool false) (D 1) w60 ∧ PEq (.bool false) (D 2) w60 ∧ PEq undef (D 3) w60 ∧ PEq undef (D 4) w60 ∧ PEq undef (D 5) w60 ∧ PEq (.bool false) (D 6) w60 ∧ PEq (.bool false) (D 7) w60 ∧ PEq undef (D 8) w60 ∧ PEq undef (D 9) w60 ∧ PEq undef (D 10) w60 ∧ PEq undef (D 11) w60 ∧ True := hd42
            obtain ⟨-, -, -, -, -, -, -, d94, -, -, d97, d98, -⟩ := hd42
            refine lw_sub (E' := [(22, (.bool false)), (25, undef), (26, undef), (2, (.bool false)), (3, (.pointer (some p1))), (4, (.pointer (some p2)))]) ⟨(congrArg some d94), (congrArg some d97), (congrArg some d98), rfl, rfl, rfl, trivial⟩ ?_
            refine lw_off rfl rfl rfl rfl rfl rfl ?_
            refine lw_off rfl rfl rfl rfl rfl rfl ?_
            refine lw_op rfl rfl rfl (ow_pickF rfl rfl rfl ?_)
            refine lw_op rfl rfl rfl (ow_move rfl rfl ?_)
            refine lw_off rfl rfl rfl rfl rfl rfl ?_
            refine lw_op rfl rfl rfl (ow_pickF rfl rfl rfl ?_)
            refine lw_op rfl rfl rfl (ow_assign rfl rfl ?_)
            refine lw_nil ?_
            refine ew_then ?_
            refine cw_ret ?_
            obtain rfl := Option.some.inj h
            exact ew_ret (res1 rfl (.tmp rfl)) ⟨_, rfl, ((vbool _)), hC60.bx⟩
      · subst hc2
        refine cw_true rfl ?_
        refine cw_seq ?_
        refine cw_region ?_
        refine lw_op rfl rfl rfl (ow_assign rfl rfl ?_)
        refine lw_nil ?_
        refine ew_then ?_
        refine cw_ret ?_
        refine ew_thenR ?_
        obtain rfl := Option.some.inj h
        exact ew_ret (res1 rfl (.tmp rfl)) ⟨_, rfl, ((vbool _)), hC8.bx⟩


end Go.PF
