/- The walks; no condition. -/
import Derived.Test.YtbnndochnkkllaaDoorProg
import Derived.Test.YtbnndochnkkllaaDoorWk3
import Derived.Test.YtbnndochnkkllaaDoorPFSeq
set_option maxRecDepth 100000
set_option maxHeartbeats 4000000
namespace Go.PF
open Go Go.RowKit Go.Proofs

theorem w_impl_PacketValid {w : World} {M : Nat → Prop} (hG : ARep (RArr 4 RShape) w M shapes ⟨0, 0, none⟩) (hO : ∀ b, M b → b < w.heap.size) {v0p : Value} {a_p : Packet} (h0 : VRep RPacket w M a_p v0p) {r : Bool} (h : F.impl_PacketValid a_p = some r) :
  Calls Tryd.prog 78 [v0p].toArray w fun e w' => ∃ v, e = .returned v ∧ VRep RBool w' M r v ∧ BX No w w' := by
 have hC : Cx No w M w M := Cx.start hO (fun _ e => e.elim)
 refine walk (N := 20) Tryd.func78 Z Tryd.ntmps78 Z (cw_seq (Zr (Zo Z Z Z (ow_box (R := RPacket) Z Z h0 hC fun p1 w1 hp1 hb1 hl1 hC1 => Zo Z Z Z (Za Z Z (Zn (Ze (cw_seq (cw_seq (Zr (Zo Z Z Z (Zl (R := RPacket) Z Z hp1 (Tryd.sizeOf27 _) (Tryd.isAgg27 _) fun v1 hv1 => ?_))))))))))))
 replace h := bind_some h
 obtain ⟨x1, hx1, h⟩ := h
 refine Zo Z Z Z (Zk Z Z Tryd.call141 (w_impl_Packet_fields (hG.mono hl1) hC1.old hv1 hx1) fun v2 w2 hv2 => ?_)
 obtain ⟨hv2, hb2⟩ := hv2
 have hl2 := Le.no M hb2
 have hC2 := hC1.no hb2
 refine Zo Z Z Z (Zm Z Z (Zn (Ze ?_)))
 replace h := bind_some h
 obtain ⟨lr1, hlr1, h⟩ := h
 refine cw_for hlr1 (fun s a w' => ∃ (M' : Nat → Prop), Fits 20 [(6, v2), (7, (.int .i64 s))] a ∧ Le w2 M w' M' ∧ Cx No w M w' M') ?_ ?_ ?_
 ·
  intro a ha
  exact ⟨M, ha.sub ⟨Z, Z, trivial⟩, Le.refl _ _, hC2⟩
 ·
  rintro k1 a w3 sr1 ⟨M1, hF1, hl3, hC3⟩ hb3 hR1
  refine cw_at (E := [(6, v2), (7, (.int .i64 k1))]) hF1 (cw_seq (Zr (Zo Z Z Z (ow_lss Z Z Z fun bb1 hbb1 => Zn (Ze (cw_seq ?_))))))
  replace hb3 := Zc hb3
  rcases hb3 with ⟨hc1, hb3⟩ | ⟨hc1, hb3⟩
  ·
   obtain rfl := hbb1.trans hc1
   refine Zt Z (cw_skip (Ze (cw_seq (cw_block (cw_seq (Zr (Zo Z Z Z (Zm Z Z ?_))))))))
   replace hb3 := bind_some hb3
   obtain ⟨x2, hx2, hb3⟩ := hb3
   refine Zo Z Z Z (ow_index (R := RInt) Z Z Z (VRep.mono hl3 hv2) Tryd.underlying186 (Tryd.sizeOf3 _) (Tryd.isAgg3 _) hx2 fun v4 hv4 => ?_)
   obtain rfl := Zi hv4
   refine Zo Z Z Z (Za Z Z (Zo Z Z Z (Za Z Z (Zn (Ze (cw_seq (Zr (Zo Z Z Z (Zm Z Z (Zo Z Z Z (ow_lss Z Z Z fun bb2 hbb2 => Zo Z Z Z (Zm Z Z ?_))))))))))))
   replace hb3 := Zc hb3
   rcases hb3 with ⟨hc2, hb3⟩ | ⟨hc2, hb3⟩
   ·
    obtain rfl := hbb2.trans hc2
    refine lw_off Z Z Z Z Z Z (lw_off Z Z Z Z Z Z (lw_off Z Z Z Z Z Z (lw_off Z Z Z Z Z Z (Zo Z Z Z (ow_pickT Z Z Z (Zn (Ze (Zt Z (cw_seq (Zr (Zo Z Z Z (Za Z Z (Zn (Ze (Zy (ew_blockR (Zh (Zh (ew_blockR (ew_brkR (Zh ?_)))))))))))))))))))))
    have e1 := hR1 _ (sj hb3).symm
    subst e1
    obtain rfl := sj h
    exact ew_ret (res1 Z (.tmp Z)) ⟨_, Z, ((vbool _)), hC3.bx⟩
   ·
    obtain rfl := hbb2.trans hc2
    refine lw_on Z Z Z Z Z Z (Zm Z Z (lw_on Z Z Z Z Z Z (Zm Z Z ?_)))
    replace hb3 := bind_some hb3
    obtain ⟨x3, hx3, hb3⟩ := hb3
    have lz1 := ((hl1.trans hl2).trans hl3)
    refine lw_on Z Z Z Z Z Z (Zk Z Z Tryd.call142 (w_impl_FieldTop (hG.mono lz1) hC3.old hx3) fun v5 w4 hv5 => ?_)
    obtain ⟨hv5, hb4⟩ := hv5
    have hl4 := Le.no M1 hb4
    have hC4 := hC3.no hb4
    obtain rfl := Zi hv5
    refine lw_on Z Z Z Z Z Z (ow_gtr Z Z Z fun bb3 hbb3 => Zo Z Z Z (ow_pickF Z Z Z (Zn (Ze ?_))))
    replace hb3 := Zc hb3
    rcases hb3 with ⟨hc3, hb3⟩ | ⟨hc3, hb3⟩
    ·
     obtain rfl := hbb3.trans hc3
     refine Zt Z (cw_seq (Zr (Zo Z Z Z (Za Z Z (Zn (Ze (Zy (ew_blockR (Zh (Zh (ew_blockR (ew_brkR (Zh ?_)))))))))))))
     have e2 := hR1 _ (sj hb3).symm
     subst e2
     obtain rfl := sj h
     exact ew_ret (res1 Z (.tmp Z)) ⟨_, Z, ((vbool _)), hC4.bx⟩
    ·
     obtain rfl := hbb3.trans hc3
     exact Zu Z (cw_skip (ew_blockN (Ze (Zr (Zo Z Z Z (ow_add Z Z Z (Zo Z Z Z (Zm Z Z (Zn (ew_nxt (W (k1 + 1)) hb3 fun a ha => ⟨M1, (ha.sub ⟨Z, Z, trivial⟩), (hl3.trans hl4), hC4⟩))))))))))
  ·
   obtain rfl := hbb1.trans hc1
   exact Zu Z (cw_exit (ew_thenX (ew_thenX (ew_blockX (ew_brk k1 hb3 fun a ha => ⟨M1, (ha.sub ⟨Z, Z, trivial⟩), hl3, hC3⟩)))))
 ·
  rintro k2 a w5 hlr2 ⟨M2, hF2, hl5, hC5⟩
  subst hlr2
  refine ew_at (E := [(6, v2), (7, (.int .i64 k2))]) hF2 (Ze (cw_seq (Zr (Zo Z Z Z (Za Z Z (Zn (Ze (Zy ?_))))))))
  obtain rfl := sj h
  exact ew_ret (res1 Z (.tmp Z)) ⟨_, Z, ((vbool _)), hC5.bx⟩

theorem w_impl_BoxHas {w : World} {M : Nat → Prop} (hG : ARep (RArr 4 RShape) w M shapes ⟨0, 0, none⟩) (hO : ∀ b, M b → b < w.heap.size) {v0p : Value} {a_b : Box} (h0 : VRep RBox w M a_b v0p) {v1p : Value} {a_p : Packet} (h1 : VRep RPacket w M a_p v1p) {r : Bool} (h : F.impl_BoxHas a_b a_p = some r) :
  Calls Tryd.prog 73 [v0p, v1p].toArray w fun e w' => ∃ v, e = .returned v ∧ VRep RBool w' M r v ∧ BX No w w' := by
 have hC : Cx No w M w M := Cx.start hO (fun _ e => e.elim)
 refine walk (N := 17) Tryd.func73 Z Tryd.ntmps73 Z (cw_seq (Zr (Zo Z Z Z (ow_box (R := RBox) Z Z h0 hC fun p1 w1 hp1 hb1 hl1 hC1 => Zo Z Z Z (ow_box (R := RPacket) Z Z (VRep.mono hl1 h1) hC1 fun p2 w2 hp2 hb2 hl2 hC2 => Zo Z Z Z (Za Z Z (Zn (Ze (cw_seq ?_)))))))))
 replace h := bind_some h
 obtain ⟨x1, hx1, h⟩ := h
 replace h := Zc h
 rcases h with ⟨hc1, h⟩ | ⟨hc1, h⟩
 ·
  subst hc1
  replace h := bind_some h
  obtain ⟨x2, hx2, h⟩ := h
  replace h := Zc h
  rcases h with ⟨hc2, h⟩ | ⟨hc2, h⟩
  ·
   subst hc2
   replace h := bind_some h
   obtain ⟨x3, hx3, h⟩ := h
   have lz1 := (hl1.trans hl2)
   refine cw_sub (E' := [(2, (.pointer (some p1))), (3, (.pointer (some p2))), (4, (.bool false))]) ⟨Z, Z, Z, trivial⟩ (cw_drawQ 10 [PV RBox M a_b, PEq (.bool true), PEq (.bool true), PV RPacket M a_p, PEq (.bool true), PEq (.bool true), PEq (.bool true), PV RBox M a_b, PV (RArr 4 (RSlice RSpan)) M x3, PV RPacket M a_p] (by kernel_rfl) Z (by kernel_rfl) ⟨PV.mono _ _ _, Zq, Zq, PV.mono _ _ _, Zq, Zq, Zq, PV.mono _ _ _, PV.mono _ _ _, PV.mono _ _ _, trivial⟩ ⟨?_, ?_, ?_, ?_, ?_, ?_, ?_, ?_, ?_, ?_, trivial⟩ ?_)
   ·
    intro w6 D hS1 hd1
    have hl6 := Le.no M hS1
    exact Zs (E' := [(2, (.pointer (some p1)))]) ⟨Z, trivial⟩ (Zp Z (Zl (R := RBox) Z Z (ARep.mono (hl2.trans hl6) hp1) (Tryd.sizeOf48 _) (Tryd.isAgg48 _) fun v8 hv8 => ⟨BX.refl _ _, hv8⟩))
   ·
    intro w7 D hS2 hd2
    have hl7 := Le.no M hS2
    have hC7 := hC2.no hS2
    have d1 : PV RBox M a_b (D 0) w7 := dpA hd2 0 Z
    generalize hq1 : (D 0) = v9 at d1
    refine Zs (E' := [(5, v9)]) ⟨(congrArg some hq1), trivial⟩ (Zp Z (Zk Z Z Tryd.call90 (w_impl_BoxValid (hG.mono (lz1.trans hl7)) hC7.old d1 hx1) fun v10 w8 hv10 => ?_))
    obtain ⟨hv10, hb6⟩ := hv10
    obtain rfl := vbool_eq hv10
    exact ⟨hb6, Z⟩
   ·
    intro w9 D hS3 hd3
    exact Zs (E' := [(6, (.bool true))]) ⟨(dpE hd3 1 Z Z), trivial⟩ (Zp Z (Zm Z Z Zb))
   ·
    intro w10 D hS4 hd4
    have hl10 := Le.no M hS4
    exact Zs (E' := [(7, (.bool true)), (3, (.pointer (some p2)))]) ⟨(dpE hd4 2 Z Z), Z, trivial⟩ (dg_on Z Z Z Z (Zl (R := RPacket) Z Z (ARep.mono hl10 hp2) (Tryd.sizeOf27 _) (Tryd.isAgg27 _) fun v11 hv11 => ⟨BX.refl _ _, hv11⟩))
   ·
    intro w11 D hS5 hd5
    have hl11 := Le.no M hS5
    have hC11 := hC2.no hS5
    have d5 : PV RPacket M a_p (D 3) w11 := dpA hd5 3 Z
    generalize hq2 : (D 3) = v12 at d5
    refine Zs (E' := [(8, v12), (7, (.bool true))]) ⟨(congrArg some hq2), (dpE hd5 2 Z Z), trivial⟩ (dg_on Z Z Z Z (Zk Z Z Tryd.call78 (w_impl_PacketValid (hG.mono (lz1.trans hl11)) hC11.old d5 hx2) fun v13 w12 hv13 => ?_))
    obtain ⟨hv13, hb7⟩ := hv13
    obtain rfl := vbool_eq hv13
    exact ⟨hb7, Z⟩
   ·
    intro w13 D hS6 hd6
    exact Zs (E' := [(7, (.bool true)), (9, (.bool true))]) ⟨(dpE hd6 2 Z Z), (dpE hd6 4 Z Z), trivial⟩ (Zp Z (ow_pickT Z Z Z Zb))
   ·
    intro w14 D hS7 hd7
    exact Zs (E' := [(10, (.bool true))]) ⟨(dpE hd7 5 Z Z), trivial⟩ (Zp Z (Zm Z Z Zb))
   ·
    intro w15 D hS8 hd8
    have hl15 := Le.no M hS8
    exact Zs (E' := [(11, (.bool true)), (2, (.pointer (some p1)))]) ⟨(dpE hd8 6 Z Z), Z, trivial⟩ (dg_on Z Z Z Z (Zl (R := RBox) Z Z (ARep.mono (hl2.trans hl15) hp1) (Tryd.sizeOf48 _) (Tryd.isAgg48 _) fun v14 hv14 => ⟨BX.refl _ _, hv14⟩))
   ·
    intro w16 D hS9 hd9
    have hl16 := Le.no M hS9
    have hC16 := hC2.no hS9
    have d13 : PV RBox M a_b (D 7) w16 := dpA hd9 7 Z
    generalize hq3 : (D 7) = v15 at d13
    refine Zs (E' := [(12, v15), (11, (.bool true))]) ⟨(congrArg some hq3), (dpE hd9 6 Z Z), trivial⟩ (dg_on Z Z Z Z (Zk Z Z Tryd.call91 (w_impl_sidesOf (hG.mono (lz1.trans hl16)) hC16.old d13 hx3) fun v16 w17 hv16 => ?_))
    obtain ⟨hv16, hb8⟩ := hv16
    exact ⟨hb8, hv16⟩
   ·
    intro w18 D hS10 hd10
    have hl18 := Le.no M hS10
    exact Zs (E' := [(11, (.bool true)), (3, (.pointer (some p2)))]) ⟨(dpE hd10 6 Z Z), Z, trivial⟩ (dg_on Z Z Z Z (Zl (R := RPacket) Z Z (ARep.mono hl18 hp2) (Tryd.sizeOf27 _) (Tryd.isAgg27 _) fun v17 hv17 => ⟨BX.refl _ _, hv17⟩))
   ·
    intro w19 D hS11 hd11
    have d25 : PV (RArr 4 (RSlice RSpan)) M x3 (D 8) w19 := dpA hd11 8 Z
    have d26 : PV RPacket M a_p (D 9) w19 := dpA hd11 9 Z
    have hl19 := Le.no M hS11
    have hC19 := hC2.no hS11
    generalize hq4 : (D 8) = v18 at d25
    generalize hq5 : (D 9) = v19 at d26
    refine lw_sub (E' := [(11, (.bool true)), (13, v18), (14, v19), (2, (.pointer (some p1))), (3, (.pointer (some p2))), (4, (.bool false))]) ⟨(dpE hd11 6 Z Z), (congrArg some hq4), (congrArg some hq5), Z, Z, Z, trivial⟩ ?_
    replace h := bind_some h
    obtain ⟨x4, hx4, h⟩ := h
    refine lw_on Z Z Z Z Z Z (Zk Z Z Tryd.call134 (w_impl_sides_has (hG.mono (lz1.trans hl19)) hC19.old d25 d26 hx4) fun v20 w20 hv20 => ?_)
    obtain ⟨hv20, hb9⟩ := hv20
    have hC20 := hC19.no hb9
    obtain rfl := vbool_eq hv20
    refine Zo Z Z Z (ow_pickT Z Z Z (Zo Z Z Z (Za Z Z (Zn (Ze (Zy ?_))))))
    obtain rfl := sj h
    exact ew_ret (res1 Z (.tmp Z)) ⟨_, Z, ((vbool _)), hC20.bx⟩
  ·
   subst hc2
   have lz2 := (hl1.trans hl2)
   refine cw_sub (E' := [(2, (.pointer (some p1))), (3, (.pointer (some p2))), (4, (.bool false))]) ⟨Z, Z, Z, trivial⟩ (cw_drawQ 10 [PV RBox M a_b, PEq (.bool true), PEq (.bool true), PV RPacket M a_p, PEq (.bool false), PEq (.bool false), PEq (.bool false), PEq undef, PEq undef, PEq undef] (by kernel_rfl) Z (by kernel_rfl) ⟨PV.mono _ _ _, Zq, Zq, PV.mono _ _ _, Zq, Zq, Zq, Zq, Zq, Zq, trivial⟩ ⟨?_, ?_, ?_, ?_, ?_, ?_, ?_, ?_, ?_, ?_, trivial⟩ ?_)
   ·
    intro w21 D hS12 hd12
    have hl21 := Le.no M hS12
    exact Zs (E' := [(2, (.pointer (some p1)))]) ⟨Z, trivial⟩ (Zp Z (Zl (R := RBox) Z Z (ARep.mono (hl2.trans hl21) hp1) (Tryd.sizeOf48 _) (Tryd.isAgg48 _) fun v21 hv21 => ⟨BX.refl _ _, hv21⟩))
   ·
    intro w22 D hS13 hd13
    have hl22 := Le.no M hS13
    have hC22 := hC2.no hS13
    have d27 : PV RBox M a_b (D 0) w22 := dpA hd13 0 Z
    generalize hq6 : (D 0) = v22 at d27
    refine Zs (E' := [(5, v22)]) ⟨(congrArg some hq6), trivial⟩ (Zp Z (Zk Z Z Tryd.call90 (w_impl_BoxValid (hG.mono (lz2.trans hl22)) hC22.old d27 hx1) fun v23 w23 hv23 => ?_))
    obtain ⟨hv23, hb10⟩ := hv23
    obtain rfl := vbool_eq hv23
    exact ⟨hb10, Z⟩
   ·
    intro w24 D hS14 hd14
    exact Zs (E' := [(6, (.bool true))]) ⟨(dpE hd14 1 Z Z), trivial⟩ (Zp Z (Zm Z Z Zb))
   ·
    intro w25 D hS15 hd15
    have hl25 := Le.no M hS15
    exact Zs (E' := [(7, (.bool true)), (3, (.pointer (some p2)))]) ⟨(dpE hd15 2 Z Z), Z, trivial⟩ (dg_on Z Z Z Z (Zl (R := RPacket) Z Z (ARep.mono hl25 hp2) (Tryd.sizeOf27 _) (Tryd.isAgg27 _) fun v24 hv24 => ⟨BX.refl _ _, hv24⟩))
   ·
    intro w26 D hS16 hd16
    have hl26 := Le.no M hS16
    have hC26 := hC2.no hS16
    have d31 : PV RPacket M a_p (D 3) w26 := dpA hd16 3 Z
    generalize hq7 : (D 3) = v25 at d31
    refine Zs (E' := [(8, v25), (7, (.bool true))]) ⟨(congrArg some hq7), (dpE hd16 2 Z Z), trivial⟩ (dg_on Z Z Z Z (Zk Z Z Tryd.call78 (w_impl_PacketValid (hG.mono (lz2.trans hl26)) hC26.old d31 hx2) fun v26 w27 hv26 => ?_))
    obtain ⟨hv26, hb11⟩ := hv26
    obtain rfl := vbool_eq hv26
    exact ⟨hb11, Z⟩
   ·
    intro w28 D hS17 hd17
    exact Zs (E' := [(7, (.bool true)), (9, (.bool false))]) ⟨(dpE hd17 2 Z Z), (dpE hd17 4 Z Z), trivial⟩ (Zp Z (ow_pickT Z Z Z Zb))
   ·
    intro w29 D hS18 hd18
    exact Zs (E' := [(10, (.bool false))]) ⟨(dpE hd18 5 Z Z), trivial⟩ (Zp Z (Zm Z Z Zb))
   ·
    intro w30 D hS19 hd19
    exact Zs (E' := [(11, (.bool false)), (2, (.pointer (some p1)))]) ⟨(dpE hd19 6 Z Z), Z, trivial⟩ (dg_off Z Z Z Z Zb)
   ·
    intro w31 D hS20 hd20
    exact Zs (E' := [(12, undef), (11, (.bool false))]) ⟨(dpE hd20 7 Z Z), (dpE hd20 6 Z Z), trivial⟩ (dg_off Z Z Z Z Zb)
   ·
    intro w32 D hS21 hd21
    exact Zs (E' := [(11, (.bool false)), (3, (.pointer (some p2)))]) ⟨(dpE hd21 6 Z Z), Z, trivial⟩ (dg_off Z Z Z Z Zb)
   ·
    intro w33 D hS22 hd22
    have hC33 := hC2.no hS22
    refine lw_sub (E' := [(11, (.bool false)), (13, undef), (14, undef), (2, (.pointer (some p1))), (3, (.pointer (some p2))), (4, (.bool false))]) ⟨(dpE hd22 6 Z Z), (dpE hd22 8 Z Z), (dpE hd22 9 Z Z), Z, Z, Z, trivial⟩ (lw_off Z Z Z Z Z Z (Zo Z Z Z (ow_pickF Z Z Z (Zo Z Z Z (Za Z Z (Zn (Ze (Zy ?_))))))))
    obtain rfl := sj h
    exact ew_ret (res1 Z (.tmp Z)) ⟨_, Z, ((vbool _)), hC33.bx⟩
 ·
  subst hc1
  have lz3 := (hl1.trans hl2)
  refine cw_sub (E' := [(2, (.pointer (some p1))), (3, (.pointer (some p2))), (4, (.bool false))]) ⟨Z, Z, Z, trivial⟩ (cw_drawQ 10 [PV RBox M a_b, PEq (.bool false), PEq (.bool false), PEq undef, PEq undef, PEq (.bool false), PEq (.bool false), PEq undef, PEq undef, PEq undef] (by kernel_rfl) Z (by kernel_rfl) ⟨PV.mono _ _ _, Zq, Zq, Zq, Zq, Zq, Zq, Zq, Zq, Zq, trivial⟩ ⟨?_, ?_, ?_, ?_, ?_, ?_, ?_, ?_, ?_, ?_, trivial⟩ ?_)
  ·
   intro w34 D hS23 hd23
   have hl34 := Le.no M hS23
   exact Zs (E' := [(2, (.pointer (some p1)))]) ⟨Z, trivial⟩ (Zp Z (Zl (R := RBox) Z Z (ARep.mono (hl2.trans hl34) hp1) (Tryd.sizeOf48 _) (Tryd.isAgg48 _) fun v27 hv27 => ⟨BX.refl _ _, hv27⟩))
  ·
   intro w35 D hS24 hd24
   have hl35 := Le.no M hS24
   have hC35 := hC2.no hS24
   have d53 : PV RBox M a_b (D 0) w35 := dpA hd24 0 Z
   generalize hq8 : (D 0) = v28 at d53
   refine Zs (E' := [(5, v28)]) ⟨(congrArg some hq8), trivial⟩ (Zp Z (Zk Z Z Tryd.call90 (w_impl_BoxValid (hG.mono (lz3.trans hl35)) hC35.old d53 hx1) fun v29 w36 hv29 => ?_))
   obtain ⟨hv29, hb12⟩ := hv29
   obtain rfl := vbool_eq hv29
   exact ⟨hb12, Z⟩
  ·
   intro w37 D hS25 hd25
   exact Zs (E' := [(6, (.bool false))]) ⟨(dpE hd25 1 Z Z), trivial⟩ (Zp Z (Zm Z Z Zb))
  ·
   intro w38 D hS26 hd26
   exact Zs (E' := [(7, (.bool false)), (3, (.pointer (some p2)))]) ⟨(dpE hd26 2 Z Z), Z, trivial⟩ (dg_off Z Z Z Z Zb)
  ·
   intro w39 D hS27 hd27
   exact Zs (E' := [(8, undef), (7, (.bool false))]) ⟨(dpE hd27 3 Z Z), (dpE hd27 2 Z Z), trivial⟩ (dg_off Z Z Z Z Zb)
  ·
   intro w40 D hS28 hd28
   exact Zs (E' := [(7, (.bool false)), (9, undef)]) ⟨(dpE hd28 2 Z Z), (dpE hd28 4 Z Z), trivial⟩ (Zp Z (ow_pickF Z Z Z Zb))
  ·
   intro w41 D hS29 hd29
   exact Zs (E' := [(10, (.bool false))]) ⟨(dpE hd29 5 Z Z), trivial⟩ (Zp Z (Zm Z Z Zb))
  ·
   intro w42 D hS30 hd30
   exact Zs (E' := [(11, (.bool false)), (2, (.pointer (some p1)))]) ⟨(dpE hd30 6 Z Z), Z, trivial⟩ (dg_off Z Z Z Z Zb)
  ·
   intro w43 D hS31 hd31
   exact Zs (E' := [(12, undef), (11, (.bool false))]) ⟨(dpE hd31 7 Z Z), (dpE hd31 6 Z Z), trivial⟩ (dg_off Z Z Z Z Zb)
  ·
   intro w44 D hS32 hd32
   exact Zs (E' := [(11, (.bool false)), (3, (.pointer (some p2)))]) ⟨(dpE hd32 6 Z Z), Z, trivial⟩ (dg_off Z Z Z Z Zb)
  ·
   intro w45 D hS33 hd33
   have hC45 := hC2.no hS33
   refine lw_sub (E' := [(11, (.bool false)), (13, undef), (14, undef), (2, (.pointer (some p1))), (3, (.pointer (some p2))), (4, (.bool false))]) ⟨(dpE hd33 6 Z Z), (dpE hd33 8 Z Z), (dpE hd33 9 Z Z), Z, Z, Z, trivial⟩ (lw_off Z Z Z Z Z Z (Zo Z Z Z (ow_pickF Z Z Z (Zo Z Z Z (Za Z Z (Zn (Ze (Zy ?_))))))))
   obtain rfl := sj h
   exact ew_ret (res1 Z (.tmp Z)) ⟨_, Z, ((vbool _)), hC45.bx⟩

theorem w_impl_allSides {w : World} {M : Nat → Prop} (hG : ARep (RArr 4 RShape) w M shapes ⟨0, 0, none⟩) (hO : ∀ b, M b → b < w.heap.size)  {r : (List (List Span))} (h : F.impl_allSides = some r) :
  Calls Tryd.prog 135 [].toArray w fun e w' => ∃ v, e = .returned v ∧ VRep (RArr 4 (RSlice RSpan)) w' M r v ∧ BX No w w' := by
 have hC : Cx No w M w M := Cx.start hO (fun _ e => e.elim)
 refine walk (N := 14) Tryd.func135 Z Tryd.ntmps135 Z (cw_seq (Zr (Zo Z Z Z (ow_alloc Z (Tryd.zeroValue131 _) hC fun g1 w1 hg1 hg2 ho1 hb1 hl1 hC1 => ?_))))
 have hm1 : (Add g1 M) g1 := .inl Z
 have ho2 : OwnA (RArr 4 (RSlice RSpan)) w1 (Add g1 M) g1 131 [([] : List Span), ([] : List Span), ([] : List Span), ([] : List Span)] := OwnA.of ho1 ⟨Z, ⟨_, _, Z, (vslice_nil (R := RSpan) (w := w1) (M := (Add g1 M))).cells, _, _, Z, (vslice_nil (R := RSpan) (w := w1) (M := (Add g1 M))).cells, _, _, Z, (vslice_nil (R := RSpan) (w := w1) (M := (Add g1 M))).cells, _, _, Z, (vslice_nil (R := RSpan) (w := w1) (M := (Add g1 M))).cells, Z⟩⟩
 refine Zn (Ze (cw_seq (Zr (Zo Z Z Z (ow_alloc Z (Tryd.zeroValue131 _) hC1 fun g2 w2 hg3 hg4 ho3 hb2 hl2 hC2 => ?_)))))
 have hn1 := Nat.ne_of_lt (Nat.lt_of_lt_of_le ho2.lt hg3)
 have ho4 := ho2.no hb2 hl2
 have hm2 : (Add g2 (Add g1 M)) g1 := .inr hm1
 have hm3 : (Add g2 (Add g1 M)) g2 := .inl Z
 have ho5 : OwnA (RArr 4 (RSlice RSpan)) w2 (Add g2 (Add g1 M)) g2 131 [([] : List Span), ([] : List Span), ([] : List Span), ([] : List Span)] := OwnA.of ho3 ⟨Z, ⟨_, _, Z, (vslice_nil (R := RSpan) (w := w2) (M := (Add g2 (Add g1 M)))).cells, _, _, Z, (vslice_nil (R := RSpan) (w := w2) (M := (Add g2 (Add g1 M)))).cells, _, _, Z, (vslice_nil (R := RSpan) (w := w2) (M := (Add g2 (Add g1 M)))).cells, _, _, Z, (vslice_nil (R := RSpan) (w := w2) (M := (Add g2 (Add g1 M)))).cells, Z⟩⟩
 refine Zn (Ze (cw_seq (cw_seq (Zr (Zo Z Z Z (Zm Z Z (Zn (Ze ?_))))))))
 replace h := bind_some h
 obtain ⟨lr1, hlr1, h⟩ := h
 refine cw_for hlr1 (fun s a w' => ∃ (M' : Nat → Prop), Fits 14 [(0, (.pointer (some ⟨g1, 0, none⟩))), (1, (.pointer (some ⟨g2, 0, none⟩))), (3, (.int .i64 s.1))] a ∧ Le w2 (Add g2 (Add g1 M)) w' M' ∧ Cx No w M w' M' ∧ OwnA (RArr 4 (RSlice RSpan)) w' M' g1 131 [([] : List Span), ([] : List Span), ([] : List Span), ([] : List Span)] ∧ M' g1 ∧ OwnA (RArr 4 (RSlice RSpan)) w' M' g2 131 s.2 ∧ M' g2) ?_ ?_ ?_
 ·
  intro a ha
  exact ⟨(Add g2 (Add g1 M)), ha.sub ⟨Z, Z, Z, trivial⟩, Le.refl _ _, hC2, ho4, hm2, ho5, hm3⟩
 ·
  rintro ⟨k1, y1⟩ a w3 sr1 ⟨M1, hF1, hl3, hC3, ho6, hm4, ho7, hm5⟩ hb3 hR1
  refine cw_at (E := [(0, (.pointer (some ⟨g1, 0, none⟩))), (1, (.pointer (some ⟨g2, 0, none⟩))), (3, (.int .i64 k1))]) hF1 (cw_seq (Zr (Zo Z Z Z (ow_lss Z Z Z fun bb1 hbb1 => Zn (Ze (cw_seq ?_))))))
  replace hb3 := Zc hb3
  rcases hb3 with ⟨hc1, hb3⟩ | ⟨hc1, hb3⟩
  ·
   obtain rfl := hbb1.trans hc1
   refine Zt Z (cw_skip (Ze (cw_seq (cw_block (cw_seq (Zr (Zo Z Z Z (Zm Z Z (Zo Z Z Z (Za Z Z (Zn (Ze (Zr (Zo Z Z Z (Zm Z Z (Zo Z Z Z (Zm Z Z ?_)))))))))))))))))
   replace hb3 := bind_some hb3
   obtain ⟨x1, hx1, hb3⟩ := hb3
   have lz1 := ((hl1.trans hl2).trans hl3)
   refine Zo Z Z Z (Zk Z Z Tryd.call142 (w_impl_FieldTop (hG.mono lz1) hC3.old hx1) fun v3 w4 hv3 => ?_)
   obtain ⟨hv3, hb4⟩ := hv3
   have hl4 := Le.no M1 hb4
   have hC4 := hC3.no hb4
   have ho8 := ho6.no hb4 hl4
   have ho9 := ho7.no hb4 hl4
   obtain rfl := Zi hv3
   refine Zo Z Z Z (ow_build (v := .agg #[(.int .i64 0), (.int .i64 x1)]) Z Z (by kernel_rfl) ?_)
   have hw1 : VRep RSpan w4 M1 ({ Lo := 0, Hi := x1 } : Span) (.agg #[(.int .i64 0), (.int .i64 x1)]) := shut_Span
   refine Zo Z Z Z (ow_buildSlice (R := RSpan) (xs := [({ Lo := 0, Hi := x1 } : Span)]) (cs := #[(.int .i64 0), (.int .i64 x1)]) (e := 120) Z Z (by kernel_rfl) Z Z ⟨_, _, Z, hw1.cells, Z⟩ hC4 fun p1 w5 hw2 hb5 hl5 hC5 => ?_)
   have ho10 := ho8.no hb5 hl5
   have ho11 := ho9.no hb5 hl5
   replace hb3 := bind_some hb3
   obtain ⟨x2, hx2, hb3⟩ := hb3
   refine Zo Z Z Z (ow_indexA (R := (RSlice RSpan)) Z Z Z Z ho11 Tryd.underlying131 (Tryd.sizeOf121 _) hx2 (lw_op0 Z Z (ow_storeElA (X := No) (R := (RSlice RSpan)) Z Z Z Z ho11 hx2 (Tryd.sizeOf121 _) hw2 hm5 (.inl hg4) hC5 fun w6 ho12 hb6 hl6 hC6 => ?_)))
   have ho13 := ho10.go hb6 (fun e => hn1 e) hl6
   refine Zn (ew_blockN (Ze (Zr (Zo Z Z Z (ow_add Z Z Z (Zo Z Z Z (Zm Z Z (Zn ?_))))))))
   have lz2 := (((hl3.trans hl4).trans hl5).trans hl6)
   exact ew_nxt ((W (k1 + 1)), (List.set y1 (k1 : Int).toNat [({ Lo := 0, Hi := x1 } : Span)])) hb3 fun a ha => ⟨M1, (ha.sub ⟨Z, Z, Z, trivial⟩), lz2, hC6, ho13, hm4, ho12, hm5⟩
  ·
   obtain rfl := hbb1.trans hc1
   exact Zu Z (cw_exit (ew_thenX (ew_thenX (ew_blockX (ew_brk (k1, y1) hb3 fun a ha => ⟨M1, (ha.sub ⟨Z, Z, Z, trivial⟩), hl3, hC3, ho6, hm4, ho7, hm5⟩)))))
 ·
  rintro ⟨k2, y2⟩ a w7 hlr2 ⟨M2, hF2, hl7, hC7, ho14, hm6, ho15, hm7⟩
  subst hlr2
  refine ew_at (E := [(0, (.pointer (some ⟨g1, 0, none⟩))), (1, (.pointer (some ⟨g2, 0, none⟩))), (3, (.int .i64 k2))]) hF2 (Ze (cw_seq (Zr (Zo Z Z Z (ow_loadA (R := (RArr 4 (RSlice RSpan))) Z Z Z ho15 (Tryd.sizeOf131 _) (Tryd.isAgg131 _) fun v6 hv6 => ?_)))))
  obtain ⟨cs1, h1, h2⟩ := ho14.own
  refine lw_op0 Z Z (ow_storeA (X := No) (R := (RArr 4 (RSlice RSpan))) Z Z Z Z h1 h2 (Tryd.sizeOf131 _) hv6 hm6 (.inl hg2) hC7 fun w8 ho16 hb7 hl8 hC8 => Zn (Ze (Zy ?_)))
  obtain rfl := sj h
  obtain ⟨v7, hq1, hw3⟩ := resA ho16 (Tryd.sizeOf131 _) (Tryd.isAgg131 _) rfl
  exact ew_ret (res1 Z (.cell Z hq1)) ⟨_, Z, (hw3.mono hC8.back), hC8.bx⟩

theorem w_impl_BoxAll {w : World} {M : Nat → Prop} (hG : ARep (RArr 4 RShape) w M shapes ⟨0, 0, none⟩) (hO : ∀ b, M b → b < w.heap.size)  {r : Box} (h : F.impl_BoxAll = some r) :
  Calls Tryd.prog 74 [].toArray w fun e w' => ∃ v, e = .returned v ∧ VRep RBox w' M r v ∧ BX No w w' := by
 have hC : Cx No w M w M := Cx.start hO (fun _ e => e.elim)
 refine walk (N := 3) Tryd.func74 Z Tryd.ntmps74 Z (cw_seq (Zr (Zo Z Z Z (ow_alloc Z (Tryd.zeroValue48 _) hC fun g1 w1 hg1 hg2 ho1 hb1 hl1 hC1 => ?_))))
 have hm1 : (Add g1 M) g1 := .inl Z
 refine Zn (Ze (cw_seq (Zr ?_)))
 replace h := bind_some h
 obtain ⟨x1, hx1, h⟩ := h
 refine Zo Z Z Z (Zk Z Z Tryd.call135 (w_impl_allSides (hG.mono hl1) hC1.old hx1) fun v1 w2 hv1 => ?_)
 obtain ⟨hv1, hb2⟩ := hv1
 have hl2 := Le.no (Add g1 M) hb2
 have hC2 := hC1.no hb2
 have ho2 := ho1.no hb2
 replace h := bind_some h
 obtain ⟨x2, hx2, h⟩ := h
 refine Zo Z Z Z (Zk Z Z Tryd.call99 (w_impl_sides_box (hG.mono (hl1.trans hl2)) hC2.old hv1 hx2) fun v2 w3 hv2 => ?_)
 obtain ⟨hv2, hb3⟩ := hv2
 have hC3 := hC2.no hb3
 have ho3 := ho2.no hb3
 obtain ⟨A1, c1, rfl, hw1⟩ := open_Box hv2
 refine lw_op0 Z Z (ow_store (X := No) (us := [(.slice A1 x2.Sides.length c1)]) (cs' := #[(.slice A1 x2.Sides.length c1)]) Z Z Z Z ho3 (Tryd.sizeOf48 _) Z Z Z Z hm1 (.inl hg2) Z hC3 fun w4 ho4 hb4 hl4 hC4 => Zn (Ze (Zy ?_)))
 have hw2 : VRep RBox w4 (Add g1 M) ({ Sides := x2.Sides } : Box) (.agg #[(.slice A1 x2.Sides.length c1)]) := shut_Box (VRep.mono hl4 hw1)
 obtain rfl := sj h
 exact ew_ret (res1 Z (.cell Z (own_loadVarA ho4 (Tryd.isAgg48 _) (Tryd.sizeOf48 _) Z))) ⟨_, Z, (hw2.mono hC4.back), hC4.bx⟩

theorem w_laws_FnBoxWithin {w : World} {M : Nat → Prop} (hG : ARep (RArr 4 RShape) w M shapes ⟨0, 0, none⟩) (hO : ∀ b, M b → b < w.heap.size) {v0p : Value} {a_code : List Int} (h0 : VRep (RSlice RU8) w M a_code v0p) {v1p : Value} {a_more : List Int} (h1 : VRep (RSlice RU8) w M a_more v1p) {r : Bool} (h : F.laws_FnBoxWithin a_code a_more = some r) :
  Calls Tryd.prog 14 [v0p, v1p].toArray w fun e w' => ∃ v, e = .returned v ∧ VRep RBool w' M r v ∧ BX No w w' := by
 have hC : Cx No w M w M := Cx.start hO (fun _ e => e.elim)
 refine walk (N := 81) Tryd.func14 Z Tryd.ntmps14 Z (cw_seq (Zr (Zo Z Z Z (Za Z Z (Zn (Ze (cw_seq (cw_seq (Zr (Zo Z Z Z (Zm Z Z (Zo Z Z Z (ow_len Z Z h0 Tryd.underlying22 Z (Zo Z Z Z (ow_gtr Z Z Z fun bb1 hbb1 => Zo Z Z Z (Zm Z Z ?_))))))))))))))))
 replace h := Zc h
 rcases h with ⟨hc1, h⟩ | ⟨hc1, h⟩
 ·
  obtain rfl := hbb1.trans hc1
  refine lw_off Z Z Z Z Z Z (lw_off Z Z Z Z Z Z (lw_off Z Z Z Z Z Z (Zo Z Z Z (ow_pickT Z Z Z (Zn (Ze (Zt Z (cw_seq (Zr (Zo Z Z Z (Za Z Z (Zn (Ze (Zy (Zh ?_)))))))))))))))
  obtain rfl := sj h
  exact ew_ret (res1 Z (.tmp Z)) ⟨_, Z, ((vbool _)), hC.bx⟩
 ·
  obtain rfl := hbb1.trans hc1
  refine lw_on Z Z Z Z Z Z (Zm Z Z (lw_on Z Z Z Z Z Z (ow_len Z Z h1 Tryd.underlying22 Z (lw_on Z Z Z Z Z Z (ow_gtr Z Z Z fun bb2 hbb2 => Zo Z Z Z (ow_pickF Z Z Z (Zn (Ze ?_))))))))
  replace h := Zc h
  rcases h with ⟨hc2, h⟩ | ⟨hc2, h⟩
  ·
   obtain rfl := hbb2.trans hc2
   refine Zt Z (cw_seq (Zr (Zo Z Z Z (Za Z Z (Zn (Ze (Zy (Zh ?_))))))))
   obtain rfl := sj h
   exact ew_ret (res1 Z (.tmp Z)) ⟨_, Z, ((vbool _)), hC.bx⟩
  ·
   obtain rfl := hbb2.trans hc2
   refine Zu Z (cw_skip (Ze (cw_seq (Zr (Zo Z Z Z (Zm Z Z ?_))))))
   replace h := bind_some h
   obtain ⟨x1, hx1, h⟩ := h
   refine Zo Z Z Z (Zk Z Z Tryd.call68 (w_spec_DrawBoxWithin hG hC.old h0 hx1) fun v1 w1 hv1 => ?_)
   obtain ⟨⟨v2, v3, rfl, hv2, hv3⟩, hb1⟩ := hv1
   have hl1 := Le.no M hb1
   have hC1 := hC.no hb1
   refine Zo Z Z Z (Zm Z Z (Zo Z Z Z (ow_extract Z Z Z (Zo Z Z Z (ow_extract Z Z Z (Zo Z Z Z (ow_alloc Z (Tryd.zeroValue48 _) hC1 fun g1 w2 hg1 hg2 ho1 hb2 hl2 hC2 => ?_)))))))
   have hm1 : (Add g1 M) g1 := .inl Z
   refine Zo Z Z Z (ow_alloc Z (Tryd.zeroValue48 _) hC2 fun g2 w3 hg3 hg4 ho2 hb3 hl3 hC3 => ?_)
   have hn1 := Nat.ne_of_lt (Nat.lt_of_lt_of_le ho1.lt hg3)
   have ho3 := ho1.no hb3
   have hm2 : (Add g2 (Add g1 M)) g1 := .inr hm1
   have hm3 : (Add g2 (Add g1 M)) g2 := .inl Z
   obtain ⟨A1, c1, rfl, hw1⟩ := open_Box hv2
   refine lw_op0 Z Z (ow_store (X := No) (us := [(.slice A1 x1.1.Sides.length c1)]) (cs' := #[(.slice A1 x1.1.Sides.length c1)]) Z Z Z Z ho3 (Tryd.sizeOf48 _) Z Z Z Z hm2 (.inl hg2) Z hC3 fun w4 ho4 hb4 hl4 hC4 => ?_)
   have ho5 := ho2.go hb4 (fun e => hn1 e.symm)
   obtain ⟨A2, c2, rfl, hw2⟩ := open_Box hv3
   refine lw_op0 Z Z (ow_store (X := No) (us := [(.slice A2 x1.2.Sides.length c2)]) (cs' := #[(.slice A2 x1.2.Sides.length c2)]) Z Z Z Z ho5 (Tryd.sizeOf48 _) Z Z Z Z hm3 (.inl hg4) Z hC4 fun w5 ho6 hb5 hl5 hC5 => ?_)
   have ho7 := ho4.go hb5 (fun e => hn1 e)
   refine Zn (Ze (cw_seq (Zr (Zo Z Z Z (ow_loadOwnA Z Z Z ho7 (Tryd.isAgg48 _) (Tryd.sizeOf48 _) Z ?_)))))
   have lz1 := (((hl2.trans hl3).trans hl4).trans hl5)
   have hw3 : VRep RBox w5 (Add g2 (Add g1 M)) ({ Sides := x1.1.Sides } : Box) (.agg #[(.slice A1 x1.1.Sides.length c1)]) := shut_Box (VRep.mono lz1 hw1)
   refine Zo Z Z Z (ow_loadOwnA Z Z Z ho6 (Tryd.isAgg48 _) (Tryd.sizeOf48 _) Z ?_)
   have hw4 : VRep RBox w5 (Add g2 (Add g1 M)) ({ Sides := x1.2.Sides } : Box) (.agg #[(.slice A2 x1.2.Sides.length c2)]) := shut_Box (VRep.mono lz1 hw2)
   replace h := bind_some h
   obtain ⟨x2, hx2, h⟩ := h
   have lz2 := ((((hl1.trans hl2).trans hl3).trans hl4).trans hl5)
   refine Zo Z Z Z (Zk Z Z Tryd.call69 (w_impl_BoxWithin (hG.mono lz2) hC5.old hw3 hw4 hx2) fun v4 w6 hv4 => ?_)
   obtain ⟨hv4, hb6⟩ := hv4
   have hl6 := Le.no (Add g2 (Add g1 M)) hb6
   have hC6 := hC5.no hb6
   have ho8 := ho7.no hb6
   have ho9 := ho6.no hb6
   obtain rfl := vbool_eq hv4
   refine Zo Z Z Z (Za Z Z (Zn (Ze (cw_seq (cw_seq (Zr (Zo Z Z Z (Zm Z Z (Zo Z Z Z (ow_loadOwnA Z Z Z ho8 (Tryd.isAgg48 _) (Tryd.sizeOf48 _) Z ?_))))))))))
   have hw5 : VRep RBox w6 (Add g2 (Add g1 M)) ({ Sides := x1.1.Sides } : Box) (.agg #[(.slice A1 x1.1.Sides.length c1)]) := shut_Box (VRep.mono (lz1.trans hl6) hw1)
   refine Zo Z Z Z (ow_loadOwnA Z Z Z ho9 (Tryd.isAgg48 _) (Tryd.sizeOf48 _) Z ?_)
   have hw6 : VRep RBox w6 (Add g2 (Add g1 M)) ({ Sides := x1.2.Sides } : Box) (.agg #[(.slice A2 x1.2.Sides.length c2)]) := shut_Box (VRep.mono (lz1.trans hl6) hw2)
   replace h := bind_some h
   obtain ⟨x3, hx3, h⟩ := h
   refine Zo Z Z Z (Zk Z Z Tryd.call70 (w_spec_BoxWithin (hG.mono (lz2.trans hl6)) hC6.old hw5 hw6 hx3) fun v5 w7 hv5 => ?_)
   obtain ⟨hv5, hb7⟩ := hv5
   have hl7 := Le.no (Add g2 (Add g1 M)) hb7
   have hC7 := hC6.no hb7
   have ho10 := ho8.no hb7
   have ho11 := ho9.no hb7
   obtain rfl := vbool_eq hv5
   refine Zo Z Z Z (ow_neqB Z Z Z Tryd.underlying4 fun bb3 hbb3 => Zn (Ze ?_))
   replace h := Zc h
   rcases h with ⟨hc3, h⟩ | ⟨hc3, h⟩
   ·
    obtain rfl := hbb3.trans hc3
    refine Zt Z (cw_seq (Zr (Zo Z Z Z (Za Z Z (Zn (Ze (Zy (Zh ?_))))))))
    obtain rfl := sj h
    exact ew_ret (res1 Z (.tmp Z)) ⟨_, Z, ((vbool _)), hC7.bx⟩
   ·
    obtain rfl := hbb3.trans hc3
    refine Zu Z (cw_skip (Ze (cw_seq (cw_seq (Zr (Zo Z Z Z (ow_loadOwnA Z Z Z ho10 (Tryd.isAgg48 _) (Tryd.sizeOf48 _) Z ?_)))))))
    have lz3 := ((lz1.trans hl6).trans hl7)
    have hw7 : VRep RBox w7 (Add g2 (Add g1 M)) ({ Sides := x1.1.Sides } : Box) (.agg #[(.slice A1 x1.1.Sides.length c1)]) := shut_Box (VRep.mono lz3 hw1)
    replace h := bind_some h
    obtain ⟨x4, hx4, h⟩ := h
    have lz4 := ((lz2.trans hl6).trans hl7)
    refine Zo Z Z Z (Zk Z Z Tryd.call71 (w_spec_BoxValid (hG.mono lz4) hC7.old hw7 hx4) fun v6 w8 hv6 => ?_)
    obtain ⟨hv6, hb8⟩ := hv6
    have hl8 := Le.no (Add g2 (Add g1 M)) hb8
    have hC8 := hC7.no hb8
    have ho12 := ho10.no hb8
    have ho13 := ho11.no hb8
    obtain rfl := vbool_eq hv6
    refine Zo Z Z Z (ow_not Z Z (Zo Z Z Z (Zm Z Z ?_)))
    replace h := Zc h
    rcases h with ⟨hc4, h⟩ | ⟨hc4, h⟩
    ·
     subst hc4
     refine lw_on Z Z Z Z Z Z (ow_loadOwnA Z Z Z ho13 (Tryd.isAgg48 _) (Tryd.sizeOf48 _) Z ?_)
     have hw8 : VRep RBox w8 (Add g2 (Add g1 M)) ({ Sides := x1.2.Sides } : Box) (.agg #[(.slice A2 x1.2.Sides.length c2)]) := shut_Box (VRep.mono (lz3.trans hl8) hw2)
     replace h := bind_some h
     obtain ⟨x5, hx5, h⟩ := h
     refine lw_on Z Z Z Z Z Z (Zk Z Z Tryd.call71 (w_spec_BoxValid (hG.mono (lz4.trans hl8)) hC8.old hw8 hx5) fun v7 w9 hv7 => ?_)
     obtain ⟨hv7, hb9⟩ := hv7
     have hl9 := Le.no (Add g2 (Add g1 M)) hb9
     have hC9 := hC8.no hb9
     have ho14 := ho12.no hb9
     have ho15 := ho13.no hb9
     obtain rfl := vbool_eq hv7
     refine lw_on Z Z Z Z Z Z (ow_not Z Z (Zo Z Z Z (ow_pickF Z Z Z (Zn (Ze ?_)))))
     replace h := Zc h
     rcases h with ⟨hc5, h⟩ | ⟨hc5, h⟩
     ·
      subst hc5
      refine Zu Z (cw_skip (Ze (cw_seq (Zr (Zo Z Z Z (ow_loadOwnA Z Z Z ho15 (Tryd.isAgg48 _) (Tryd.sizeOf48 _) Z ?_))))))
      have lz5 := ((lz3.trans hl8).trans hl9)
      have hw9 : VRep RBox w9 (Add g2 (Add g1 M)) ({ Sides := x1.2.Sides } : Box) (.agg #[(.slice A2 x1.2.Sides.length c2)]) := shut_Box (VRep.mono lz5 hw2)
      refine Zo Z Z Z (ow_loadOwnA Z Z Z ho14 (Tryd.isAgg48 _) (Tryd.sizeOf48 _) Z ?_)
      have hw10 : VRep RBox w9 (Add g2 (Add g1 M)) ({ Sides := x1.1.Sides } : Box) (.agg #[(.slice A1 x1.1.Sides.length c1)]) := shut_Box (VRep.mono lz5 hw1)
      refine Zo Z Z Z (ow_buildSlice (R := RBox) (xs := [({ Sides := x1.2.Sides } : Box), ({ Sides := x1.1.Sides } : Box)]) (cs := #[(.slice A2 x1.2.Sides.length c2), (.slice A1 x1.1.Sides.length c1)]) (e := 48) Z Z (by kernel_rfl) Z Z ⟨_, _, Z, hw9.cells, _, _, Z, hw10.cells, Z⟩ hC9 fun p1 w10 hw11 hb10 hl10 hC10 => ?_)
      have ho16 := ho14.no hb10
      have ho17 := ho15.no hb10
      refine Zo Z Z Z (Zm Z Z ?_)
      have lz6 := (((lz4.trans hl8).trans hl9).trans hl10)
      refine Zo Z Z Z (ow_len Z Z (VRep.mono lz6 h1) Tryd.underlying22 Z ?_)
      replace h := bind_some h
      obtain ⟨x6, hx6, h⟩ := h
      refine Zo Z Z Z (Zk Z Z Tryd.call72 (w_laws_probe (hG.mono lz6) hC10.old hw11 hx6) fun v8 w11 hv8 => ?_)
      obtain ⟨hv8, hb11⟩ := hv8
      have hl11 := Le.no (Add g2 (Add g1 M)) hb11
      have hC11 := hC10.no hb11
      have ho18 := ho16.no hb11
      have ho19 := ho17.no hb11
      refine lw_allocStore (R := RPacket) Z Z Z Z Z Z Z Tryd.zeroValue27 Tryd.sizeOf27 Z Z Z (by simp) hv8 hC11 fun p2 w12 hp2 hb12 hl12 hC12 => ?_
      have ho20 := ho18.no hb12
      have ho21 := ho19.no hb12
      refine Zn (Ze (cw_seq ?_))
      replace h := bind_some h
      obtain ⟨x7, hx7, h⟩ := h
      replace h := Zc h
      rcases h with ⟨hc6, h⟩ | ⟨hc6, h⟩
      ·
       replace h := Zc h
       rcases h with ⟨hc7, h⟩ | ⟨hc7, h⟩
       ·
        subst hc7
        replace h := bind_some h
        obtain ⟨x8, hx8, h⟩ := h
        replace h := Zc h
        rcases h with ⟨hc8, h⟩ | ⟨hc8, h⟩
        ·
         subst hc8
         replace h := bind_some h
         obtain ⟨x9, hx9, h⟩ := h
         replace h := Zc h
         rcases h with ⟨hc9, h⟩ | ⟨hc9, h⟩
         ·
          subst hc9
          replace h := bind_some h
          obtain ⟨x10, hx10, h⟩ := h
          replace h := Zc h
          rcases h with ⟨hc10, h⟩ | ⟨hc10, h⟩
          ·
           subst hc10
           replace h := bind_some h
           obtain ⟨x11, hx11, h⟩ := h
           have lz7 := ((lz6.trans hl11).trans hl12)
           have lz8 := (((lz5.trans hl10).trans hl11).trans hl12)
           refine cw_sub (E' := [(4, (.bool false)), (5, (.pointer (some ⟨g1, 0, none⟩))), (6, (.pointer (some ⟨g2, 0, none⟩))), (7, (.bool true)), (8, (.pointer (some p2)))]) ⟨Z, Z, Z, Z, Z, trivial⟩ (cw_drawQ 30 [PEq (.bool true), PV RBox (Add g2 (Add g1 M)) ({ Sides := x1.1.Sides } : Box), PV RBox (Add g2 (Add g1 M)) ({ Sides := x1.2.Sides } : Box), PV (RSlice RBox) (Add g2 (Add g1 M)) x7, PEq (.int .i64 (x7.length : Int)), PEq (.bool ((x7.length : Int) == 0)), PEq (.bool true), PEq (.bool true), PEq (.bool true), PEq (.bool false), PEq (.bool false), PV RBox (Add g2 (Add g1 M)) ({ Sides := x1.1.Sides } : Box), PV RPacket (Add g2 (Add g1 M)) x6, PEq (.bool true), PEq (.bool false), PEq (.bool false), PEq (.bool false), PV RBox (Add g2 (Add g1 M)) ({ Sides := x1.2.Sides } : Box), PV RPacket (Add g2 (Add g1 M)) x6, PEq (.bool true), PEq (.bool true), PEq (.bool true), PEq (.bool true), PV RBox (Add g2 (Add g1 M)) ({ Sides := x1.1.Sides } : Box), PV RBox (Add g2 (Add g1 M)) ({ Sides := x1.1.Sides } : Box), PEq (.bool true), PEq (.bool true), PEq (.bool true), PV RBox (Add g2 (Add g1 M)) ({ Sides := x1.1.Sides } : Box), PV RBox (Add g2 (Add g1 M)) x11] (by kernel_rfl) Z (by kernel_rfl) ⟨Zq, PV.mono _ _ _, PV.mono _ _ _, PV.mono _ _ _, Zq, Zq, Zq, Zq, Zq, Zq, Zq, PV.mono _ _ _, PV.mono _ _ _, Zq, Zq, Zq, Zq, PV.mono _ _ _, PV.mono _ _ _, Zq, Zq, Zq, Zq, PV.mono _ _ _, PV.mono _ _ _, Zq, Zq, Zq, PV.mono _ _ _, PV.mono _ _ _, trivial⟩ ⟨?_, ?_, ?_, ?_, ?_, ?_, ?_, ?_, ?_, ?_, ?_, ?_, ?_, ?_, ?_, ?_, ?_, ?_, ?_, ?_, ?_, ?_, ?_, ?_, ?_, ?_, ?_, ?_, ?_, ?_, trivial⟩ ?_)
           ·
            intro w18 D hS1 hd1
            exact Zs (E' := [(7, (.bool true))]) ⟨Z, trivial⟩ (Zp Z (Zm Z Z Zb))
           ·
            intro w19 D hS2 hd2
            have hl19 := Le.no (Add g2 (Add g1 M)) hS2
            have ho34 := ho20.no hS2
            refine Zs (E' := [(5, (.pointer (some ⟨g1, 0, none⟩)))]) ⟨Z, trivial⟩ (Zp Z (ow_loadOwnA Z Z Z ho34 (Tryd.isAgg48 _) (Tryd.sizeOf48 _) Z ?_))
            have hw19 : VRep RBox w19 (Add g2 (Add g1 M)) ({ Sides := x1.1.Sides } : Box) (.agg #[(.slice A1 x1.1.Sides.length c1)]) := shut_Box (VRep.mono (lz8.trans hl19) hw1)
            exact ⟨BX.refl _ _, hw19⟩
           ·
            intro w20 D hS3 hd3
            have hl20 := Le.no (Add g2 (Add g1 M)) hS3
            have ho37 := ho21.no hS3
            refine Zs (E' := [(6, (.pointer (some ⟨g2, 0, none⟩)))]) ⟨Z, trivial⟩ (Zp Z (ow_loadOwnA Z Z Z ho37 (Tryd.isAgg48 _) (Tryd.sizeOf48 _) Z ?_))
            have hw20 : VRep RBox w20 (Add g2 (Add g1 M)) ({ Sides := x1.2.Sides } : Box) (.agg #[(.slice A2 x1.2.Sides.length c2)]) := shut_Box (VRep.mono (lz8.trans hl20) hw2)
            exact ⟨BX.refl _ _, hw20⟩
           ·
            intro w21 D hS4 hd4
            have hl21 := Le.no (Add g2 (Add g1 M)) hS4
            have hC21 := hC12.no hS4
            have d1 : PV RBox (Add g2 (Add g1 M)) ({ Sides := x1.1.Sides } : Box) (D 1) w21 := dpA hd4 1 Z
            have d2 : PV RBox (Add g2 (Add g1 M)) ({ Sides := x1.2.Sides } : Box) (D 2) w21 := dpA hd4 2 Z
            generalize hq1 : (D 1) = v16 at d1
            generalize hq2 : (D 2) = v17 at d2
            refine Zs (E' := [(50, v16), (51, v17)]) ⟨(congrArg some hq1), (congrArg some hq2), trivial⟩ (Zp Z (Zk Z Z Tryd.call63 (w_impl_BoxCut (hG.mono (lz7.trans hl21)) hC21.old d1 d2 hx7) fun v18 w22 hv18 => ?_))
            obtain ⟨hv18, hb18⟩ := hv18
            exact ⟨hb18, hv18⟩
           ·
            intro w23 D hS5 hd5
            have d3 : PV (RSlice RBox) (Add g2 (Add g1 M)) x7 (D 3) w23 := dpA hd5 3 Z
            generalize hq3 : (D 3) = v19 at d3
            exact Zs (E' := [(52, v19)]) ⟨(congrArg some hq3), trivial⟩ (Zp Z (ow_len Z Z d3 Tryd.underlying64 Z Zb))
           ·
            intro w24 D hS6 hd6
            exact Zs (E' := [(53, (.int .i64 (x7.length : Int)))]) ⟨(dpE hd6 4 Z Z), trivial⟩ (Zp Z (ow_eqlI Z Z Z fun bb6 hbb6 => ⟨BX.refl _ _, (congrArg Value.bool hbb6)⟩))
           ·
            intro w25 D hS7 hd7
            have d6 : PEq (.bool ((x7.length : Int) == 0)) (D 5) w25 := dpA hd7 5 Z
            obtain ⟨bb7, hq4, hq5⟩ : ∃ b, b = ((x7.length : Int) == 0) ∧ (D 5) = .bool b := ⟨_, rfl, d6⟩
            refine Zs (E' := [(49, (.bool true)), (54, (.bool bb7))]) ⟨(dpE hd7 0 Z Z), (congrArg some hq5), trivial⟩ (Zp Z (ow_eqlB Z Z Z Tryd.underlying4 fun bb8 hbb8 => ?_))
            have hbb8' : bb8 = (true == ((x7.length : Int) == 0)) := hbb8.trans (by rw [hq4])
            obtain rfl := hbb8'.trans hc6
            exact Zb
           ·
            intro w26 D hS8 hd8
            exact Zs (E' := [(55, (.bool true))]) ⟨(dpE hd8 6 Z Z), trivial⟩ (Zp Z (Zm Z Z Zb))
           ·
            intro w27 D hS9 hd9
            exact Zs (E' := [(56, (.bool true)), (7, (.bool true))]) ⟨(dpE hd9 7 Z Z), Z, trivial⟩ (dg_on Z Z Z Z (Zm Z Z Zb))
           ·
            intro w28 D hS10 hd10
            exact Zs (E' := [(57, (.bool true)), (56, (.bool true))]) ⟨(dpE hd10 8 Z Z), (dpE hd10 7 Z Z), trivial⟩ (dg_on Z Z Z Z (ow_not Z Z Zb))
           ·
            intro w29 D hS11 hd11
            exact Zs (E' := [(58, (.bool false)), (56, (.bool true))]) ⟨(dpE hd11 9 Z Z), (dpE hd11 7 Z Z), trivial⟩ (dg_on Z Z Z Z (Zm Z Z Zb))
           ·
            intro w30 D hS12 hd12
            have hl30 := Le.no (Add g2 (Add g1 M)) hS12
            have ho56 := ho20.no hS12
            refine Zs (E' := [(59, (.bool false)), (5, (.pointer (some ⟨g1, 0, none⟩)))]) ⟨(dpE hd12 10 Z Z), Z, trivial⟩ (dg_on Z Z Z Z (ow_loadOwnA Z Z Z ho56 (Tryd.isAgg48 _) (Tryd.sizeOf48 _) Z ?_))
            have hw21 : VRep RBox w30 (Add g2 (Add g1 M)) ({ Sides := x1.1.Sides } : Box) (.agg #[(.slice A1 x1.1.Sides.length c1)]) := shut_Box (VRep.mono (lz8.trans hl30) hw1)
            exact ⟨BX.refl _ _, hw21⟩
           ·
            intro w31 D hS13 hd13
            have hl31 := Le.no (Add g2 (Add g1 M)) hS13
            exact Zs (E' := [(59, (.bool false)), (8, (.pointer (some p2)))]) ⟨(dpE hd13 10 Z Z), Z, trivial⟩ (dg_on Z Z Z Z (Zl (R := RPacket) Z Z (ARep.mono hl31 hp2) (Tryd.sizeOf27 _) (Tryd.isAgg27 _) fun v20 hv20 => ⟨BX.refl _ _, hv20⟩))
           ·
            intro w32 D hS14 hd14
            have hl32 := Le.no (Add g2 (Add g1 M)) hS14
            have hC32 := hC12.no hS14
            have d17 : PV RBox (Add g2 (Add g1 M)) ({ Sides := x1.1.Sides } : Box) (D 11) w32 := dpA hd14 11 Z
            have d18 : PV RPacket (Add g2 (Add g1 M)) x6 (D 12) w32 := dpA hd14 12 Z
            generalize hq6 : (D 11) = v21 at d17
            generalize hq7 : (D 12) = v22 at d18
            refine Zs (E' := [(60, v21), (61, v22), (59, (.bool false))]) ⟨(congrArg some hq6), (congrArg some hq7), (dpE hd14 10 Z Z), trivial⟩ (dg_on Z Z Z Z (Zk Z Z Tryd.call73 (w_impl_BoxHas (hG.mono (lz7.trans hl32)) hC32.old d17 d18 hx8) fun v23 w33 hv23 => ?_))
            obtain ⟨hv23, hb19⟩ := hv23
            obtain rfl := vbool_eq hv23
            exact ⟨hb19, Z⟩
           ·
            intro w34 D hS15 hd15
            exact Zs (E' := [(62, (.bool true)), (59, (.bool false))]) ⟨(dpE hd15 13 Z Z), (dpE hd15 10 Z Z), trivial⟩ (dg_on Z Z Z Z (ow_not Z Z Zb))
           ·
            intro w35 D hS16 hd16
            exact Zs (E' := [(59, (.bool false)), (63, (.bool false)), (56, (.bool true))]) ⟨(dpE hd16 10 Z Z), (dpE hd16 14 Z Z), (dpE hd16 7 Z Z), trivial⟩ (dg_on Z Z Z Z (ow_pickF Z Z Z Zb))
           ·
            intro w36 D hS17 hd17
            exact Zs (E' := [(64, (.bool false)), (56, (.bool true))]) ⟨(dpE hd17 15 Z Z), (dpE hd17 7 Z Z), trivial⟩ (dg_on Z Z Z Z (Zm Z Z Zb))
           ·
            intro w37 D hS18 hd18
            have hl37 := Le.no (Add g2 (Add g1 M)) hS18
            have ho71 := ho21.no hS18
            refine Zs (E' := [(65, (.bool false)), (6, (.pointer (some ⟨g2, 0, none⟩)))]) ⟨(dpE hd18 16 Z Z), Z, trivial⟩ (dg_on Z Z Z Z (ow_loadOwnA Z Z Z ho71 (Tryd.isAgg48 _) (Tryd.sizeOf48 _) Z ?_))
            have hw22 : VRep RBox w37 (Add g2 (Add g1 M)) ({ Sides := x1.2.Sides } : Box) (.agg #[(.slice A2 x1.2.Sides.length c2)]) := shut_Box (VRep.mono (lz8.trans hl37) hw2)
            exact ⟨BX.refl _ _, hw22⟩
           ·
            intro w38 D hS19 hd19
            have hl38 := Le.no (Add g2 (Add g1 M)) hS19
            exact Zs (E' := [(65, (.bool false)), (8, (.pointer (some p2)))]) ⟨(dpE hd19 16 Z Z), Z, trivial⟩ (dg_on Z Z Z Z (Zl (R := RPacket) Z Z (ARep.mono hl38 hp2) (Tryd.sizeOf27 _) (Tryd.isAgg27 _) fun v24 hv24 => ⟨BX.refl _ _, hv24⟩))
           ·
            intro w39 D hS20 hd20
            have hl39 := Le.no (Add g2 (Add g1 M)) hS20
            have hC39 := hC12.no hS20
            have d31 : PV RBox (Add g2 (Add g1 M)) ({ Sides := x1.2.Sides } : Box) (D 17) w39 := dpA hd20 17 Z
            have d32 : PV RPacket (Add g2 (Add g1 M)) x6 (D 18) w39 := dpA hd20 18 Z
            generalize hq8 : (D 17) = v25 at d31
            generalize hq9 : (D 18) = v26 at d32
            refine Zs (E' := [(66, v25), (67, v26), (65, (.bool false))]) ⟨(congrArg some hq8), (congrArg some hq9), (dpE hd20 16 Z Z), trivial⟩ (dg_on Z Z Z Z (Zk Z Z Tryd.call73 (w_impl_BoxHas (hG.mono (lz7.trans hl39)) hC39.old d31 d32 hx9) fun v27 w40 hv27 => ?_))
            obtain ⟨hv27, hb20⟩ := hv27
            obtain rfl := vbool_eq hv27
            exact ⟨hb20, Z⟩
           ·
            intro w41 D hS21 hd21
            exact Zs (E' := [(65, (.bool false)), (68, (.bool true)), (56, (.bool true))]) ⟨(dpE hd21 16 Z Z), (dpE hd21 19 Z Z), (dpE hd21 7 Z Z), trivial⟩ (dg_on Z Z Z Z (ow_pickF Z Z Z Zb))
           ·
            intro w42 D hS22 hd22
            exact Zs (E' := [(56, (.bool true)), (69, (.bool true))]) ⟨(dpE hd22 7 Z Z), (dpE hd22 20 Z Z), trivial⟩ (Zp Z (ow_pickT Z Z Z Zb))
           ·
            intro w43 D hS23 hd23
            exact Zs (E' := [(70, (.bool true))]) ⟨(dpE hd23 21 Z Z), trivial⟩ (Zp Z (Zm Z Z Zb))
           ·
            intro w44 D hS24 hd24
            have hl44 := Le.no (Add g2 (Add g1 M)) hS24
            have ho84 := ho20.no hS24
            refine Zs (E' := [(71, (.bool true)), (5, (.pointer (some ⟨g1, 0, none⟩)))]) ⟨(dpE hd24 22 Z Z), Z, trivial⟩ (dg_on Z Z Z Z (ow_loadOwnA Z Z Z ho84 (Tryd.isAgg48 _) (Tryd.sizeOf48 _) Z ?_))
            have hw23 : VRep RBox w44 (Add g2 (Add g1 M)) ({ Sides := x1.1.Sides } : Box) (.agg #[(.slice A1 x1.1.Sides.length c1)]) := shut_Box (VRep.mono (lz8.trans hl44) hw1)
            exact ⟨BX.refl _ _, hw23⟩
           ·
            intro w45 D hS25 hd25
            have hl45 := Le.no (Add g2 (Add g1 M)) hS25
            have ho86 := ho20.no hS25
            refine Zs (E' := [(71, (.bool true)), (5, (.pointer (some ⟨g1, 0, none⟩)))]) ⟨(dpE hd25 22 Z Z), Z, trivial⟩ (dg_on Z Z Z Z (ow_loadOwnA Z Z Z ho86 (Tryd.isAgg48 _) (Tryd.sizeOf48 _) Z ?_))
            have hw24 : VRep RBox w45 (Add g2 (Add g1 M)) ({ Sides := x1.1.Sides } : Box) (.agg #[(.slice A1 x1.1.Sides.length c1)]) := shut_Box (VRep.mono (lz8.trans hl45) hw1)
            exact ⟨BX.refl _ _, hw24⟩
           ·
            intro w46 D hS26 hd26
            have hl46 := Le.no (Add g2 (Add g1 M)) hS26
            have hC46 := hC12.no hS26
            have d44 : PV RBox (Add g2 (Add g1 M)) ({ Sides := x1.1.Sides } : Box) (D 23) w46 := dpA hd26 23 Z
            have d45 : PV RBox (Add g2 (Add g1 M)) ({ Sides := x1.1.Sides } : Box) (D 24) w46 := dpA hd26 24 Z
            generalize hq10 : (D 23) = v28 at d44
            generalize hq11 : (D 24) = v29 at d45
            refine Zs (E' := [(72, v28), (73, v29), (71, (.bool true))]) ⟨(congrArg some hq10), (congrArg some hq11), (dpE hd26 22 Z Z), trivial⟩ (dg_on Z Z Z Z (Zk Z Z Tryd.call69 (w_impl_BoxWithin (hG.mono (lz7.trans hl46)) hC46.old d44 d45 hx10) fun v30 w47 hv30 => ?_))
            obtain ⟨hv30, hb21⟩ := hv30
            obtain rfl := vbool_eq hv30
            exact ⟨hb21, Z⟩
           ·
            intro w48 D hS27 hd27
            exact Zs (E' := [(71, (.bool true)), (74, (.bool true))]) ⟨(dpE hd27 22 Z Z), (dpE hd27 25 Z Z), trivial⟩ (Zp Z (ow_pickT Z Z Z Zb))
           ·
            intro w49 D hS28 hd28
            exact Zs (E' := [(75, (.bool true))]) ⟨(dpE hd28 26 Z Z), trivial⟩ (Zp Z (Zm Z Z Zb))
           ·
            intro w50 D hS29 hd29
            have hl50 := Le.no (Add g2 (Add g1 M)) hS29
            have ho96 := ho20.no hS29
            refine Zs (E' := [(76, (.bool true)), (5, (.pointer (some ⟨g1, 0, none⟩)))]) ⟨(dpE hd29 27 Z Z), Z, trivial⟩ (dg_on Z Z Z Z (ow_loadOwnA Z Z Z ho96 (Tryd.isAgg48 _) (Tryd.sizeOf48 _) Z ?_))
            have hw25 : VRep RBox w50 (Add g2 (Add g1 M)) ({ Sides := x1.1.Sides } : Box) (.agg #[(.slice A1 x1.1.Sides.length c1)]) := shut_Box (VRep.mono (lz8.trans hl50) hw1)
            exact ⟨BX.refl _ _, hw25⟩
           ·
            intro w51 D hS30 hd30
            have hl51 := Le.no (Add g2 (Add g1 M)) hS30
            have hC51 := hC12.no hS30
            refine Zs (E' := [(76, (.bool true))]) ⟨(dpE hd30 27 Z Z), trivial⟩ (dg_on Z Z Z Z (Zk Z Z Tryd.call74 (w_impl_BoxAll (hG.mono (lz7.trans hl51)) hC51.old hx11) fun v31 w52 hv31 => ?_))
            obtain ⟨hv31, hb22⟩ := hv31
            exact ⟨hb22, hv31⟩
           ·
            intro w53 D hS31 hd31
            have d83 : PV RBox (Add g2 (Add g1 M)) ({ Sides := x1.1.Sides } : Box) (D 28) w53 := dpA hd31 28 Z
            have d84 : PV RBox (Add g2 (Add g1 M)) x11 (D 29) w53 := dpA hd31 29 Z
            have hl53 := Le.no (Add g2 (Add g1 M)) hS31
            have hC53 := hC12.no hS31
            generalize hq12 : (D 28) = v32 at d83
            generalize hq13 : (D 29) = v33 at d84
            refine lw_sub (E' := [(76, (.bool true)), (77, v32), (78, v33), (4, (.bool false)), (5, (.pointer (some ⟨g1, 0, none⟩))), (6, (.pointer (some ⟨g2, 0, none⟩))), (7, (.bool true)), (8, (.pointer (some p2)))]) ⟨(dpE hd31 27 Z Z), (congrArg some hq12), (congrArg some hq13), Z, Z, Z, Z, Z, trivial⟩ ?_
            replace h := bind_some h
            obtain ⟨x12, hx12, h⟩ := h
            refine lw_on Z Z Z Z Z Z (Zk Z Z Tryd.call69 (w_impl_BoxWithin (hG.mono (lz7.trans hl53)) hC53.old d83 d84 hx12) fun v34 w54 hv34 => ?_)
            obtain ⟨hv34, hb23⟩ := hv34
            have hC54 := hC53.no hb23
            obtain rfl := vbool_eq hv34
            refine Zo Z Z Z (ow_pickT Z Z Z (Zo Z Z Z (Za Z Z (Zn (Ze (Zy ?_))))))
            obtain rfl := sj h
            exact ew_ret (res1 Z (.tmp Z)) ⟨_, Z, ((vbool _)), hC54.bx⟩
          ·
           subst hc10
           have lz15 := ((lz6.trans hl11).trans hl12)
           have lz16 := (((lz5.trans hl10).trans hl11).trans hl12)
           refine cw_sub (E' := [(4, (.bool false)), (5, (.pointer (some ⟨g1, 0, none⟩))), (6, (.pointer (some ⟨g2, 0, none⟩))), (7, (.bool true)), (8, (.pointer (some p2)))]) ⟨Z, Z, Z, Z, Z, trivial⟩ (cw_drawQ 30 [PEq (.bool true), PV RBox (Add g2 (Add g1 M)) ({ Sides := x1.1.Sides } : Box), PV RBox (Add g2 (Add g1 M)) ({ Sides := x1.2.Sides } : Box), PV (RSlice RBox) (Add g2 (Add g1 M)) x7, PEq (.int .i64 (x7.length : Int)), PEq (.bool ((x7.length : Int) == 0)), PEq (.bool true), PEq (.bool true), PEq (.bool true), PEq (.bool false), PEq (.bool false), PV RBox (Add g2 (Add g1 M)) ({ Sides := x1.1.Sides } : Box), PV RPacket (Add g2 (Add g1 M)) x6, PEq (.bool true), PEq (.bool false), PEq (.bool false), PEq (.bool false), PV RBox (Add g2 (Add g1 M)) ({ Sides := x1.2.Sides } : Box), PV RPacket (Add g2 (Add g1 M)) x6, PEq (.bool true), PEq (.bool true), PEq (.bool true), PEq (.bool true), PV RBox (Add g2 (Add g1 M)) ({ Sides := x1.1.Sides } : Box), PV RBox (Add g2 (Add g1 M)) ({ Sides := x1.1.Sides } : Box), PEq (.bool false), PEq (.bool false), PEq (.bool false), PEq undef, PEq undef] (by kernel_rfl) Z (by kernel_rfl) ⟨Zq, PV.mono _ _ _, PV.mono _ _ _, PV.mono _ _ _, Zq, Zq, Zq, Zq, Zq, Zq, Zq, PV.mono _ _ _, PV.mono _ _ _, Zq, Zq, Zq, Zq, PV.mono _ _ _, PV.mono _ _ _, Zq, Zq, Zq, Zq, PV.mono _ _ _, PV.mono _ _ _, Zq, Zq, Zq, Zq, Zq, trivial⟩ ⟨?_, ?_, ?_, ?_, ?_, ?_, ?_, ?_, ?_, ?_, ?_, ?_, ?_, ?_, ?_, ?_, ?_, ?_, ?_, ?_, ?_, ?_, ?_, ?_, ?_, ?_, ?_, ?_, ?_, ?_, trivial⟩ ?_)
           ·
            intro w55 D hS32 hd32
            exact Zs (E' := [(7, (.bool true))]) ⟨Z, trivial⟩ (Zp Z (Zm Z Z Zb))
           ·
            intro w56 D hS33 hd33
            have hl56 := Le.no (Add g2 (Add g1 M)) hS33
            have ho108 := ho20.no hS33
            refine Zs (E' := [(5, (.pointer (some ⟨g1, 0, none⟩)))]) ⟨Z, trivial⟩ (Zp Z (ow_loadOwnA Z Z Z ho108 (Tryd.isAgg48 _) (Tryd.sizeOf48 _) Z ?_))
            have hw26 : VRep RBox w56 (Add g2 (Add g1 M)) ({ Sides := x1.1.Sides } : Box) (.agg #[(.slice A1 x1.1.Sides.length c1)]) := shut_Box (VRep.mono (lz16.trans hl56) hw1)
            exact ⟨BX.refl _ _, hw26⟩
           ·
            intro w57 D hS34 hd34
            have hl57 := Le.no (Add g2 (Add g1 M)) hS34
            have ho111 := ho21.no hS34
            refine Zs (E' := [(6, (.pointer (some ⟨g2, 0, none⟩)))]) ⟨Z, trivial⟩ (Zp Z (ow_loadOwnA Z Z Z ho111 (Tryd.isAgg48 _) (Tryd.sizeOf48 _) Z ?_))
            have hw27 : VRep RBox w57 (Add g2 (Add g1 M)) ({ Sides := x1.2.Sides } : Box) (.agg #[(.slice A2 x1.2.Sides.length c2)]) := shut_Box (VRep.mono (lz16.trans hl57) hw2)
            exact ⟨BX.refl _ _, hw27⟩
           ·
            intro w58 D hS35 hd35
            have hl58 := Le.no (Add g2 (Add g1 M)) hS35
            have hC58 := hC12.no hS35
            have d85 : PV RBox (Add g2 (Add g1 M)) ({ Sides := x1.1.Sides } : Box) (D 1) w58 := dpA hd35 1 Z
            have d86 : PV RBox (Add g2 (Add g1 M)) ({ Sides := x1.2.Sides } : Box) (D 2) w58 := dpA hd35 2 Z
            generalize hq14 : (D 1) = v35 at d85
            generalize hq15 : (D 2) = v36 at d86
            refine Zs (E' := [(50, v35), (51, v36)]) ⟨(congrArg some hq14), (congrArg some hq15), trivial⟩ (Zp Z (Zk Z Z Tryd.call63 (w_impl_BoxCut (hG.mono (lz15.trans hl58)) hC58.old d85 d86 hx7) fun v37 w59 hv37 => ?_))
            obtain ⟨hv37, hb24⟩ := hv37
            exact ⟨hb24, hv37⟩
           ·
            intro w60 D hS36 hd36
            have d87 : PV (RSlice RBox) (Add g2 (Add g1 M)) x7 (D 3) w60 := dpA hd36 3 Z
            generalize hq16 : (D 3) = v38 at d87
            exact Zs (E' := [(52, v38)]) ⟨(congrArg some hq16), trivial⟩ (Zp Z (ow_len Z Z d87 Tryd.underlying64 Z Zb))
           ·
            intro w61 D hS37 hd37
            exact Zs (E' := [(53, (.int .i64 (x7.length : Int)))]) ⟨(dpE hd37 4 Z Z), trivial⟩ (Zp Z (ow_eqlI Z Z Z fun bb9 hbb9 => ⟨BX.refl _ _, (congrArg Value.bool hbb9)⟩))
           ·
            intro w62 D hS38 hd38
            have d90 : PEq (.bool ((x7.length : Int) == 0)) (D 5) w62 := dpA hd38 5 Z
            obtain ⟨bb10, hq17, hq18⟩ : ∃ b, b = ((x7.length : Int) == 0) ∧ (D 5) = .bool b := ⟨_, rfl, d90⟩
            refine Zs (E' := [(49, (.bool true)), (54, (.bool bb10))]) ⟨(dpE hd38 0 Z Z), (congrArg some hq18), trivial⟩ (Zp Z (ow_eqlB Z Z Z Tryd.underlying4 fun bb11 hbb11 => ?_))
            have hbb11' : bb11 = (true == ((x7.length : Int) == 0)) := hbb11.trans (by rw [hq17])
            obtain rfl := hbb11'.trans hc6
            exact Zb
           ·
            intro w63 D hS39 hd39
            exact Zs (E' := [(55, (.bool true))]) ⟨(dpE hd39 6 Z Z), trivial⟩ (Zp Z (Zm Z Z Zb))
           ·
            intro w64 D hS40 hd40
            exact Zs (E' := [(56, (.bool true)), (7, (.bool true))]) ⟨(dpE hd40 7 Z Z), Z, trivial⟩ (dg_on Z Z Z Z (Zm Z Z Zb))
           ·
            intro w65 D hS41 hd41
            exact Zs (E' := [(57, (.bool true)), (56, (.bool true))]) ⟨(dpE hd41 8 Z Z), (dpE hd41 7 Z Z), trivial⟩ (dg_on Z Z Z Z (ow_not Z Z Zb))
           ·
            intro w66 D hS42 hd42
            exact Zs (E' := [(58, (.bool false)), (56, (.bool true))]) ⟨(dpE hd42 9 Z Z), (dpE hd42 7 Z Z), trivial⟩ (dg_on Z Z Z Z (Zm Z Z Zb))
           ·
            intro w67 D hS43 hd43
            have hl67 := Le.no (Add g2 (Add g1 M)) hS43
            have ho130 := ho20.no hS43
            refine Zs (E' := [(59, (.bool false)), (5, (.pointer (some ⟨g1, 0, none⟩)))]) ⟨(dpE hd43 10 Z Z), Z, trivial⟩ (dg_on Z Z Z Z (ow_loadOwnA Z Z Z ho130 (Tryd.isAgg48 _) (Tryd.sizeOf48 _) Z ?_))
            have hw28 : VRep RBox w67 (Add g2 (Add g1 M)) ({ Sides := x1.1.Sides } : Box) (.agg #[(.slice A1 x1.1.Sides.length c1)]) := shut_Box (VRep.mono (lz16.trans hl67) hw1)
            exact ⟨BX.refl _ _, hw28⟩
           ·
            intro w68 D hS44 hd44
            have hl68 := Le.no (Add g2 (Add g1 M)) hS44
            exact Zs (E' := [(59, (.bool false)), (8, (.pointer (some p2)))]) ⟨(dpE hd44 10 Z Z), Z, trivial⟩ (dg_on Z Z Z Z (Zl (R := RPacket) Z Z (ARep.mono hl68 hp2) (Tryd.sizeOf27 _) (Tryd.isAgg27 _) fun v39 hv39 => ⟨BX.refl _ _, hv39⟩))
           ·
            intro w69 D hS45 hd45
            have hl69 := Le.no (Add g2 (Add g1 M)) hS45
            have hC69 := hC12.no hS45
            have d101 : PV RBox (Add g2 (Add g1 M)) ({ Sides := x1.1.Sides } : Box) (D 11) w69 := dpA hd45 11 Z
            have d102 : PV RPacket (Add g2 (Add g1 M)) x6 (D 12) w69 := dpA hd45 12 Z
            generalize hq19 : (D 11) = v40 at d101
            generalize hq20 : (D 12) = v41 at d102
            refine Zs (E' := [(60, v40), (61, v41), (59, (.bool false))]) ⟨(congrArg some hq19), (congrArg some hq20), (dpE hd45 10 Z Z), trivial⟩ (dg_on Z Z Z Z (Zk Z Z Tryd.call73 (w_impl_BoxHas (hG.mono (lz15.trans hl69)) hC69.old d101 d102 hx8) fun v42 w70 hv42 => ?_))
            obtain ⟨hv42, hb25⟩ := hv42
            obtain rfl := vbool_eq hv42
            exact ⟨hb25, Z⟩
           ·
            intro w71 D hS46 hd46
            exact Zs (E' := [(62, (.bool true)), (59, (.bool false))]) ⟨(dpE hd46 13 Z Z), (dpE hd46 10 Z Z), trivial⟩ (dg_on Z Z Z Z (ow_not Z Z Zb))
           ·
            intro w72 D hS47 hd47
            exact Zs (E' := [(59, (.bool false)), (63, (.bool false)), (56, (.bool true))]) ⟨(dpE hd47 10 Z Z), (dpE hd47 14 Z Z), (dpE hd47 7 Z Z), trivial⟩ (dg_on Z Z Z Z (ow_pickF Z Z Z Zb))
           ·
            intro w73 D hS48 hd48
            exact Zs (E' := [(64, (.bool false)), (56, (.bool true))]) ⟨(dpE hd48 15 Z Z), (dpE hd48 7 Z Z), trivial⟩ (dg_on Z Z Z Z (Zm Z Z Zb))
           ·
            intro w74 D hS49 hd49
            have hl74 := Le.no (Add g2 (Add g1 M)) hS49
            have ho145 := ho21.no hS49
            refine Zs (E' := [(65, (.bool false)), (6, (.pointer (some ⟨g2, 0, none⟩)))]) ⟨(dpE hd49 16 Z Z), Z, trivial⟩ (dg_on Z Z Z Z (ow_loadOwnA Z Z Z ho145 (Tryd.isAgg48 _) (Tryd.sizeOf48 _) Z ?_))
            have hw29 : VRep RBox w74 (Add g2 (Add g1 M)) ({ Sides := x1.2.Sides } : Box) (.agg #[(.slice A2 x1.2.Sides.length c2)]) := shut_Box (VRep.mono (lz16.trans hl74) hw2)
            exact ⟨BX.refl _ _, hw29⟩
           ·
            intro w75 D hS50 hd50
            have hl75 := Le.no (Add g2 (Add g1 M)) hS50
            exact Zs (E' := [(65, (.bool false)), (8, (.pointer (some p2)))]) ⟨(dpE hd50 16 Z Z), Z, trivial⟩ (dg_on Z Z Z Z (Zl (R := RPacket) Z Z (ARep.mono hl75 hp2) (Tryd.sizeOf27 _) (Tryd.isAgg27 _) fun v43 hv43 => ⟨BX.refl _ _, hv43⟩))
           ·
            intro w76 D hS51 hd51
            have hl76 := Le.no (Add g2 (Add g1 M)) hS51
            have hC76 := hC12.no hS51
            have d115 : PV RBox (Add g2 (Add g1 M)) ({ Sides := x1.2.Sides } : Box) (D 17) w76 := dpA hd51 17 Z
            have d116 : PV RPacket (Add g2 (Add g1 M)) x6 (D 18) w76 := dpA hd51 18 Z
            generalize hq21 : (D 17) = v44 at d115
            generalize hq22 : (D 18) = v45 at d116
            refine Zs (E' := [(66, v44), (67, v45), (65, (.bool false))]) ⟨(congrArg some hq21), (congrArg some hq22), (dpE hd51 16 Z Z), trivial⟩ (dg_on Z Z Z Z (Zk Z Z Tryd.call73 (w_impl_BoxHas (hG.mono (lz15.trans hl76)) hC76.old d115 d116 hx9) fun v46 w77 hv46 => ?_))
            obtain ⟨hv46, hb26⟩ := hv46
            obtain rfl := vbool_eq hv46
            exact ⟨hb26, Z⟩
           ·
            intro w78 D hS52 hd52
            exact Zs (E' := [(65, (.bool false)), (68, (.bool true)), (56, (.bool true))]) ⟨(dpE hd52 16 Z Z), (dpE hd52 19 Z Z), (dpE hd52 7 Z Z), trivial⟩ (dg_on Z Z Z Z (ow_pickF Z Z Z Zb))
           ·
            intro w79 D hS53 hd53
            exact Zs (E' := [(56, (.bool true)), (69, (.bool true))]) ⟨(dpE hd53 7 Z Z), (dpE hd53 20 Z Z), trivial⟩ (Zp Z (ow_pickT Z Z Z Zb))
           ·
            intro w80 D hS54 hd54
            exact Zs (E' := [(70, (.bool true))]) ⟨(dpE hd54 21 Z Z), trivial⟩ (Zp Z (Zm Z Z Zb))
           ·
            intro w81 D hS55 hd55
            have hl81 := Le.no (Add g2 (Add g1 M)) hS55
            have ho158 := ho20.no hS55
            refine Zs (E' := [(71, (.bool true)), (5, (.pointer (some ⟨g1, 0, none⟩)))]) ⟨(dpE hd55 22 Z Z), Z, trivial⟩ (dg_on Z Z Z Z (ow_loadOwnA Z Z Z ho158 (Tryd.isAgg48 _) (Tryd.sizeOf48 _) Z ?_))
            have hw30 : VRep RBox w81 (Add g2 (Add g1 M)) ({ Sides := x1.1.Sides } : Box) (.agg #[(.slice A1 x1.1.Sides.length c1)]) := shut_Box (VRep.mono (lz16.trans hl81) hw1)
            exact ⟨BX.refl _ _, hw30⟩
           ·
            intro w82 D hS56 hd56
            have hl82 := Le.no (Add g2 (Add g1 M)) hS56
            have ho160 := ho20.no hS56
            refine Zs (E' := [(71, (.bool true)), (5, (.pointer (some ⟨g1, 0, none⟩)))]) ⟨(dpE hd56 22 Z Z), Z, trivial⟩ (dg_on Z Z Z Z (ow_loadOwnA Z Z Z ho160 (Tryd.isAgg48 _) (Tryd.sizeOf48 _) Z ?_))
            have hw31 : VRep RBox w82 (Add g2 (Add g1 M)) ({ Sides := x1.1.Sides } : Box) (.agg #[(.slice A1 x1.1.Sides.length c1)]) := shut_Box (VRep.mono (lz16.trans hl82) hw1)
            exact ⟨BX.refl _ _, hw31⟩
           ·
            intro w83 D hS57 hd57
            have hl83 := Le.no (Add g2 (Add g1 M)) hS57
            have hC83 := hC12.no hS57
            have d128 : PV RBox (Add g2 (Add g1 M)) ({ Sides := x1.1.Sides } : Box) (D 23) w83 := dpA hd57 23 Z
            have d129 : PV RBox (Add g2 (Add g1 M)) ({ Sides := x1.1.Sides } : Box) (D 24) w83 := dpA hd57 24 Z
            generalize hq23 : (D 23) = v47 at d128
            generalize hq24 : (D 24) = v48 at d129
            refine Zs (E' := [(72, v47), (73, v48), (71, (.bool true))]) ⟨(congrArg some hq23), (congrArg some hq24), (dpE hd57 22 Z Z), trivial⟩ (dg_on Z Z Z Z (Zk Z Z Tryd.call69 (w_impl_BoxWithin (hG.mono (lz15.trans hl83)) hC83.old d128 d129 hx10) fun v49 w84 hv49 => ?_))
            obtain ⟨hv49, hb27⟩ := hv49
            obtain rfl := vbool_eq hv49
            exact ⟨hb27, Z⟩
           ·
            intro w85 D hS58 hd58
            exact Zs (E' := [(71, (.bool true)), (74, (.bool false))]) ⟨(dpE hd58 22 Z Z), (dpE hd58 25 Z Z), trivial⟩ (Zp Z (ow_pickT Z Z Z Zb))
           ·
            intro w86 D hS59 hd59
            exact Zs (E' := [(75, (.bool false))]) ⟨(dpE hd59 26 Z Z), trivial⟩ (Zp Z (Zm Z Z Zb))
           ·
            intro w87 D hS60 hd60
            exact Zs (E' := [(76, (.bool false)), (5, (.pointer (some ⟨g1, 0, none⟩)))]) ⟨(dpE hd60 27 Z Z), Z, trivial⟩ (dg_off Z Z Z Z Zb)
           ·
            intro w88 D hS61 hd61
            exact Zs (E' := [(76, (.bool false))]) ⟨(dpE hd61 27 Z Z), trivial⟩ (dg_off Z Z Z Z Zb)
           ·
            intro w89 D hS62 hd62
            have hC89 := hC12.no hS62
            refine lw_sub (E' := [(76, (.bool false)), (77, undef), (78, undef), (4, (.bool false)), (5, (.pointer (some ⟨g1, 0, none⟩))), (6, (.pointer (some ⟨g2, 0, none⟩))), (7, (.bool true)), (8, (.pointer (some p2)))]) ⟨(dpE hd62 27 Z Z), (dpE hd62 28 Z Z), (dpE hd62 29 Z Z), Z, Z, Z, Z, Z, trivial⟩ (lw_off Z Z Z Z Z Z (Zo Z Z Z (ow_pickF Z Z Z (Zo Z Z Z (Za Z Z (Zn (Ze (Zy ?_))))))))
            obtain rfl := sj h
            exact ew_ret (res1 Z (.tmp Z)) ⟨_, Z, ((vbool _)), hC89.bx⟩
         ·
          subst hc9
          have lz23 := ((lz6.trans hl11).trans hl12)
          have lz24 := (((lz5.trans hl10).trans hl11).trans hl12)
          refine cw_sub (E' := [(4, (.bool false)), (5, (.pointer (some ⟨g1, 0, none⟩))), (6, (.pointer (some ⟨g2, 0, none⟩))), (7, (.bool true)), (8, (.pointer (some p2)))]) ⟨Z, Z, Z, Z, Z, trivial⟩ (cw_drawQ 30 [PEq (.bool true), PV RBox (Add g2 (Add g1 M)) ({ Sides := x1.1.Sides } : Box), PV RBox (Add g2 (Add g1 M)) ({ Sides := x1.2.Sides } : Box), PV (RSlice RBox) (Add g2 (Add g1 M)) x7, PEq (.int .i64 (x7.length : Int)), PEq (.bool ((x7.length : Int) == 0)), PEq (.bool true), PEq (.bool true), PEq (.bool true), PEq (.bool false), PEq (.bool false), PV RBox (Add g2 (Add g1 M)) ({ Sides := x1.1.Sides } : Box), PV RPacket (Add g2 (Add g1 M)) x6, PEq (.bool true), PEq (.bool false), PEq (.bool false), PEq (.bool false), PV RBox (Add g2 (Add g1 M)) ({ Sides := x1.2.Sides } : Box), PV RPacket (Add g2 (Add g1 M)) x6, PEq (.bool false), PEq (.bool false), PEq (.bool false), PEq (.bool false), PEq undef, PEq undef, PEq undef, PEq (.bool false), PEq (.bool false), PEq undef, PEq undef] (by kernel_rfl) Z (by kernel_rfl) ⟨Zq, PV.mono _ _ _, PV.mono _ _ _, PV.mono _ _ _, Zq, Zq, Zq, Zq, Zq, Zq, Zq, PV.mono _ _ _, PV.mono _ _ _, Zq, Zq, Zq, Zq, PV.mono _ _ _, PV.mono _ _ _, Zq, Zq, Zq, Zq, Zq, Zq, Zq, Zq, Zq, Zq, Zq, trivial⟩ ⟨?_, ?_, ?_, ?_, ?_, ?_, ?_, ?_, ?_, ?_, ?_, ?_, ?_, ?_, ?_, ?_, ?_, ?_, ?_, ?_, ?_, ?_, ?_, ?_, ?_, ?_, ?_, ?_, ?_, ?_, trivial⟩ ?_)
          ·
           intro w90 D hS63 hd63
           exact Zs (E' := [(7, (.bool true))]) ⟨Z, trivial⟩ (Zp Z (Zm Z Z Zb))
          ·
           intro w91 D hS64 hd64
           have hl91 := Le.no (Add g2 (Add g1 M)) hS64
           have ho178 := ho20.no hS64
           refine Zs (E' := [(5, (.pointer (some ⟨g1, 0, none⟩)))]) ⟨Z, trivial⟩ (Zp Z (ow_loadOwnA Z Z Z ho178 (Tryd.isAgg48 _) (Tryd.sizeOf48 _) Z ?_))
           have hw32 : VRep RBox w91 (Add g2 (Add g1 M)) ({ Sides := x1.1.Sides } : Box) (.agg #[(.slice A1 x1.1.Sides.length c1)]) := shut_Box (VRep.mono (lz24.trans hl91) hw1)
           exact ⟨BX.refl _ _, hw32⟩
          ·
           intro w92 D hS65 hd65
           have hl92 := Le.no (Add g2 (Add g1 M)) hS65
           have ho181 := ho21.no hS65
           refine Zs (E' := [(6, (.pointer (some ⟨g2, 0, none⟩)))]) ⟨Z, trivial⟩ (Zp Z (ow_loadOwnA Z Z Z ho181 (Tryd.isAgg48 _) (Tryd.sizeOf48 _) Z ?_))
           have hw33 : VRep RBox w92 (Add g2 (Add g1 M)) ({ Sides := x1.2.Sides } : Box) (.agg #[(.slice A2 x1.2.Sides.length c2)]) := shut_Box (VRep.mono (lz24.trans hl92) hw2)
           exact ⟨BX.refl _ _, hw33⟩
          ·
           intro w93 D hS66 hd66
           have hl93 := Le.no (Add g2 (Add g1 M)) hS66
           have hC93 := hC12.no hS66
           have d169 : PV RBox (Add g2 (Add g1 M)) ({ Sides := x1.1.Sides } : Box) (D 1) w93 := dpA hd66 1 Z
           have d170 : PV RBox (Add g2 (Add g1 M)) ({ Sides := x1.2.Sides } : Box) (D 2) w93 := dpA hd66 2 Z
           generalize hq25 : (D 1) = v50 at d169
           generalize hq26 : (D 2) = v51 at d170
           refine Zs (E' := [(50, v50), (51, v51)]) ⟨(congrArg some hq25), (congrArg some hq26), trivial⟩ (Zp Z (Zk Z Z Tryd.call63 (w_impl_BoxCut (hG.mono (lz23.trans hl93)) hC93.old d169 d170 hx7) fun v52 w94 hv52 => ?_))
           obtain ⟨hv52, hb28⟩ := hv52
           exact ⟨hb28, hv52⟩
          ·
           intro w95 D hS67 hd67
           have d171 : PV (RSlice RBox) (Add g2 (Add g1 M)) x7 (D 3) w95 := dpA hd67 3 Z
           generalize hq27 : (D 3) = v53 at d171
           exact Zs (E' := [(52, v53)]) ⟨(congrArg some hq27), trivial⟩ (Zp Z (ow_len Z Z d171 Tryd.underlying64 Z Zb))
          ·
           intro w96 D hS68 hd68
           exact Zs (E' := [(53, (.int .i64 (x7.length : Int)))]) ⟨(dpE hd68 4 Z Z), trivial⟩ (Zp Z (ow_eqlI Z Z Z fun bb12 hbb12 => ⟨BX.refl _ _, (congrArg Value.bool hbb12)⟩))
          ·
           intro w97 D hS69 hd69
           have d174 : PEq (.bool ((x7.length : Int) == 0)) (D 5) w97 := dpA hd69 5 Z
           obtain ⟨bb13, hq28, hq29⟩ : ∃ b, b = ((x7.length : Int) == 0) ∧ (D 5) = .bool b := ⟨_, rfl, d174⟩
           refine Zs (E' := [(49, (.bool true)), (54, (.bool bb13))]) ⟨(dpE hd69 0 Z Z), (congrArg some hq29), trivial⟩ (Zp Z (ow_eqlB Z Z Z Tryd.underlying4 fun bb14 hbb14 => ?_))
           have hbb14' : bb14 = (true == ((x7.length : Int) == 0)) := hbb14.trans (by rw [hq28])
           obtain rfl := hbb14'.trans hc6
           exact Zb
          ·
           intro w98 D hS70 hd70
           exact Zs (E' := [(55, (.bool true))]) ⟨(dpE hd70 6 Z Z), trivial⟩ (Zp Z (Zm Z Z Zb))
          ·
           intro w99 D hS71 hd71
           exact Zs (E' := [(56, (.bool true)), (7, (.bool true))]) ⟨(dpE hd71 7 Z Z), Z, trivial⟩ (dg_on Z Z Z Z (Zm Z Z Zb))
          ·
           intro w100 D hS72 hd72
           exact Zs (E' := [(57, (.bool true)), (56, (.bool true))]) ⟨(dpE hd72 8 Z Z), (dpE hd72 7 Z Z), trivial⟩ (dg_on Z Z Z Z (ow_not Z Z Zb))
          ·
           intro w101 D hS73 hd73
           exact Zs (E' := [(58, (.bool false)), (56, (.bool true))]) ⟨(dpE hd73 9 Z Z), (dpE hd73 7 Z Z), trivial⟩ (dg_on Z Z Z Z (Zm Z Z Zb))
          ·
           intro w102 D hS74 hd74
           have hl102 := Le.no (Add g2 (Add g1 M)) hS74
           have ho200 := ho20.no hS74
           refine Zs (E' := [(59, (.bool false)), (5, (.pointer (some ⟨g1, 0, none⟩)))]) ⟨(dpE hd74 10 Z Z), Z, trivial⟩ (dg_on Z Z Z Z (ow_loadOwnA Z Z Z ho200 (Tryd.isAgg48 _) (Tryd.sizeOf48 _) Z ?_))
           have hw34 : VRep RBox w102 (Add g2 (Add g1 M)) ({ Sides := x1.1.Sides } : Box) (.agg #[(.slice A1 x1.1.Sides.length c1)]) := shut_Box (VRep.mono (lz24.trans hl102) hw1)
           exact ⟨BX.refl _ _, hw34⟩
          ·
           intro w103 D hS75 hd75
           have hl103 := Le.no (Add g2 (Add g1 M)) hS75
           exact Zs (E' := [(59, (.bool false)), (8, (.pointer (some p2)))]) ⟨(dpE hd75 10 Z Z), Z, trivial⟩ (dg_on Z Z Z Z (Zl (R := RPacket) Z Z (ARep.mono hl103 hp2) (Tryd.sizeOf27 _) (Tryd.isAgg27 _) fun v54 hv54 => ⟨BX.refl _ _, hv54⟩))
          ·
           intro w104 D hS76 hd76
           have hl104 := Le.no (Add g2 (Add g1 M)) hS76
           have hC104 := hC12.no hS76
           have d185 : PV RBox (Add g2 (Add g1 M)) ({ Sides := x1.1.Sides } : Box) (D 11) w104 := dpA hd76 11 Z
           have d186 : PV RPacket (Add g2 (Add g1 M)) x6 (D 12) w104 := dpA hd76 12 Z
           generalize hq30 : (D 11) = v55 at d185
           generalize hq31 : (D 12) = v56 at d186
           refine Zs (E' := [(60, v55), (61, v56), (59, (.bool false))]) ⟨(congrArg some hq30), (congrArg some hq31), (dpE hd76 10 Z Z), trivial⟩ (dg_on Z Z Z Z (Zk Z Z Tryd.call73 (w_impl_BoxHas (hG.mono (lz23.trans hl104)) hC104.old d185 d186 hx8) fun v57 w105 hv57 => ?_))
           obtain ⟨hv57, hb29⟩ := hv57
           obtain rfl := vbool_eq hv57
           exact ⟨hb29, Z⟩
          ·
           intro w106 D hS77 hd77
           exact Zs (E' := [(62, (.bool true)), (59, (.bool false))]) ⟨(dpE hd77 13 Z Z), (dpE hd77 10 Z Z), trivial⟩ (dg_on Z Z Z Z (ow_not Z Z Zb))
          ·
           intro w107 D hS78 hd78
           exact Zs (E' := [(59, (.bool false)), (63, (.bool false)), (56, (.bool true))]) ⟨(dpE hd78 10 Z Z), (dpE hd78 14 Z Z), (dpE hd78 7 Z Z), trivial⟩ (dg_on Z Z Z Z (ow_pickF Z Z Z Zb))
          ·
           intro w108 D hS79 hd79
           exact Zs (E' := [(64, (.bool false)), (56, (.bool true))]) ⟨(dpE hd79 15 Z Z), (dpE hd79 7 Z Z), trivial⟩ (dg_on Z Z Z Z (Zm Z Z Zb))
          ·
           intro w109 D hS80 hd80
           have hl109 := Le.no (Add g2 (Add g1 M)) hS80
           have ho215 := ho21.no hS80
           refine Zs (E' := [(65, (.bool false)), (6, (.pointer (some ⟨g2, 0, none⟩)))]) ⟨(dpE hd80 16 Z Z), Z, trivial⟩ (dg_on Z Z Z Z (ow_loadOwnA Z Z Z ho215 (Tryd.isAgg48 _) (Tryd.sizeOf48 _) Z ?_))
           have hw35 : VRep RBox w109 (Add g2 (Add g1 M)) ({ Sides := x1.2.Sides } : Box) (.agg #[(.slice A2 x1.2.Sides.length c2)]) := shut_Box (VRep.mono (lz24.trans hl109) hw2)
           exact ⟨BX.refl _ _, hw35⟩
          ·
           intro w110 D hS81 hd81
           have hl110 := Le.no (Add g2 (Add g1 M)) hS81
           exact Zs (E' := [(65, (.bool false)), (8, (.pointer (some p2)))]) ⟨(dpE hd81 16 Z Z), Z, trivial⟩ (dg_on Z Z Z Z (Zl (R := RPacket) Z Z (ARep.mono hl110 hp2) (Tryd.sizeOf27 _) (Tryd.isAgg27 _) fun v58 hv58 => ⟨BX.refl _ _, hv58⟩))
          ·
           intro w111 D hS82 hd82
           have hl111 := Le.no (Add g2 (Add g1 M)) hS82
           have hC111 := hC12.no hS82
           have d199 : PV RBox (Add g2 (Add g1 M)) ({ Sides := x1.2.Sides } : Box) (D 17) w111 := dpA hd82 17 Z
           have d200 : PV RPacket (Add g2 (Add g1 M)) x6 (D 18) w111 := dpA hd82 18 Z
           generalize hq32 : (D 17) = v59 at d199
           generalize hq33 : (D 18) = v60 at d200
           refine Zs (E' := [(66, v59), (67, v60), (65, (.bool false))]) ⟨(congrArg some hq32), (congrArg some hq33), (dpE hd82 16 Z Z), trivial⟩ (dg_on Z Z Z Z (Zk Z Z Tryd.call73 (w_impl_BoxHas (hG.mono (lz23.trans hl111)) hC111.old d199 d200 hx9) fun v61 w112 hv61 => ?_))
           obtain ⟨hv61, hb30⟩ := hv61
           obtain rfl := vbool_eq hv61
           exact ⟨hb30, Z⟩
          ·
           intro w113 D hS83 hd83
           exact Zs (E' := [(65, (.bool false)), (68, (.bool false)), (56, (.bool true))]) ⟨(dpE hd83 16 Z Z), (dpE hd83 19 Z Z), (dpE hd83 7 Z Z), trivial⟩ (dg_on Z Z Z Z (ow_pickF Z Z Z Zb))
          ·
           intro w114 D hS84 hd84
           exact Zs (E' := [(56, (.bool true)), (69, (.bool false))]) ⟨(dpE hd84 7 Z Z), (dpE hd84 20 Z Z), trivial⟩ (Zp Z (ow_pickT Z Z Z Zb))
          ·
           intro w115 D hS85 hd85
           exact Zs (E' := [(70, (.bool false))]) ⟨(dpE hd85 21 Z Z), trivial⟩ (Zp Z (Zm Z Z Zb))
          ·
           intro w116 D hS86 hd86
           exact Zs (E' := [(71, (.bool false)), (5, (.pointer (some ⟨g1, 0, none⟩)))]) ⟨(dpE hd86 22 Z Z), Z, trivial⟩ (dg_off Z Z Z Z Zb)
          ·
           intro w117 D hS87 hd87
           exact Zs (E' := [(71, (.bool false)), (5, (.pointer (some ⟨g1, 0, none⟩)))]) ⟨(dpE hd87 22 Z Z), Z, trivial⟩ (dg_off Z Z Z Z Zb)
          ·
           intro w118 D hS88 hd88
           exact Zs (E' := [(72, undef), (73, undef), (71, (.bool false))]) ⟨(dpE hd88 23 Z Z), (dpE hd88 24 Z Z), (dpE hd88 22 Z Z), trivial⟩ (dg_off Z Z Z Z Zb)
          ·
           intro w119 D hS89 hd89
           exact Zs (E' := [(71, (.bool false)), (74, undef)]) ⟨(dpE hd89 22 Z Z), (dpE hd89 25 Z Z), trivial⟩ (Zp Z (ow_pickF Z Z Z Zb))
          ·
           intro w120 D hS90 hd90
           exact Zs (E' := [(75, (.bool false))]) ⟨(dpE hd90 26 Z Z), trivial⟩ (Zp Z (Zm Z Z Zb))
          ·
           intro w121 D hS91 hd91
           exact Zs (E' := [(76, (.bool false)), (5, (.pointer (some ⟨g1, 0, none⟩)))]) ⟨(dpE hd91 27 Z Z), Z, trivial⟩ (dg_off Z Z Z Z Zb)
          ·
           intro w122 D hS92 hd92
           exact Zs (E' := [(76, (.bool false))]) ⟨(dpE hd92 27 Z Z), trivial⟩ (dg_off Z Z Z Z Zb)
          ·
           intro w123 D hS93 hd93
           have hC123 := hC12.no hS93
           refine lw_sub (E' := [(76, (.bool false)), (77, undef), (78, undef), (4, (.bool false)), (5, (.pointer (some ⟨g1, 0, none⟩))), (6, (.pointer (some ⟨g2, 0, none⟩))), (7, (.bool true)), (8, (.pointer (some p2)))]) ⟨(dpE hd93 27 Z Z), (dpE hd93 28 Z Z), (dpE hd93 29 Z Z), Z, Z, Z, Z, Z, trivial⟩ (lw_off Z Z Z Z Z Z (Zo Z Z Z (ow_pickF Z Z Z (Zo Z Z Z (Za Z Z (Zn (Ze (Zy ?_))))))))
           obtain rfl := sj h
           exact ew_ret (res1 Z (.tmp Z)) ⟨_, Z, ((vbool _)), hC123.bx⟩
        ·
         subst hc8
         replace h := bind_some h
         obtain ⟨x13, hx13, h⟩ := h
         replace h := Zc h
         rcases h with ⟨hc11, h⟩ | ⟨hc11, h⟩
         ·
          subst hc11
          replace h := bind_some h
          obtain ⟨x14, hx14, h⟩ := h
          have lz31 := ((lz6.trans hl11).trans hl12)
          have lz32 := (((lz5.trans hl10).trans hl11).trans hl12)
          refine cw_sub (E' := [(4, (.bool false)), (5, (.pointer (some ⟨g1, 0, none⟩))), (6, (.pointer (some ⟨g2, 0, none⟩))), (7, (.bool true)), (8, (.pointer (some p2)))]) ⟨Z, Z, Z, Z, Z, trivial⟩ (cw_drawQ 30 [PEq (.bool true), PV RBox (Add g2 (Add g1 M)) ({ Sides := x1.1.Sides } : Box), PV RBox (Add g2 (Add g1 M)) ({ Sides := x1.2.Sides } : Box), PV (RSlice RBox) (Add g2 (Add g1 M)) x7, PEq (.int .i64 (x7.length : Int)), PEq (.bool ((x7.length : Int) == 0)), PEq (.bool true), PEq (.bool true), PEq (.bool true), PEq (.bool false), PEq (.bool false), PV RBox (Add g2 (Add g1 M)) ({ Sides := x1.1.Sides } : Box), PV RPacket (Add g2 (Add g1 M)) x6, PEq (.bool false), PEq (.bool true), PEq (.bool true), PEq (.bool true), PEq undef, PEq undef, PEq undef, PEq (.bool true), PEq (.bool true), PEq (.bool true), PV RBox (Add g2 (Add g1 M)) ({ Sides := x1.1.Sides } : Box), PV RBox (Add g2 (Add g1 M)) ({ Sides := x1.1.Sides } : Box), PEq (.bool true), PEq (.bool true), PEq (.bool true), PV RBox (Add g2 (Add g1 M)) ({ Sides := x1.1.Sides } : Box), PV RBox (Add g2 (Add g1 M)) x14] (by kernel_rfl) Z (by kernel_rfl) ⟨Zq, PV.mono _ _ _, PV.mono _ _ _, PV.mono _ _ _, Zq, Zq, Zq, Zq, Zq, Zq, Zq, PV.mono _ _ _, PV.mono _ _ _, Zq, Zq, Zq, Zq, Zq, Zq, Zq, Zq, Zq, Zq, PV.mono _ _ _, PV.mono _ _ _, Zq, Zq, Zq, PV.mono _ _ _, PV.mono _ _ _, trivial⟩ ⟨?_, ?_, ?_, ?_, ?_, ?_, ?_, ?_, ?_, ?_, ?_, ?_, ?_, ?_, ?_, ?_, ?_, ?_, ?_, ?_, ?_, ?_, ?_, ?_, ?_, ?_, ?_, ?_, ?_, ?_, trivial⟩ ?_)
          ·
           intro w126 D hS94 hd94
           exact Zs (E' := [(7, (.bool true))]) ⟨Z, trivial⟩ (Zp Z (Zm Z Z Zb))
          ·
           intro w127 D hS95 hd95
           have hl127 := Le.no (Add g2 (Add g1 M)) hS95
           have ho250 := ho20.no hS95
           refine Zs (E' := [(5, (.pointer (some ⟨g1, 0, none⟩)))]) ⟨Z, trivial⟩ (Zp Z (ow_loadOwnA Z Z Z ho250 (Tryd.isAgg48 _) (Tryd.sizeOf48 _) Z ?_))
           have hw39 : VRep RBox w127 (Add g2 (Add g1 M)) ({ Sides := x1.1.Sides } : Box) (.agg #[(.slice A1 x1.1.Sides.length c1)]) := shut_Box (VRep.mono (lz32.trans hl127) hw1)
           exact ⟨BX.refl _ _, hw39⟩
          ·
           intro w128 D hS96 hd96
           have hl128 := Le.no (Add g2 (Add g1 M)) hS96
           have ho253 := ho21.no hS96
           refine Zs (E' := [(6, (.pointer (some ⟨g2, 0, none⟩)))]) ⟨Z, trivial⟩ (Zp Z (ow_loadOwnA Z Z Z ho253 (Tryd.isAgg48 _) (Tryd.sizeOf48 _) Z ?_))
           have hw40 : VRep RBox w128 (Add g2 (Add g1 M)) ({ Sides := x1.2.Sides } : Box) (.agg #[(.slice A2 x1.2.Sides.length c2)]) := shut_Box (VRep.mono (lz32.trans hl128) hw2)
           exact ⟨BX.refl _ _, hw40⟩
          ·
           intro w129 D hS97 hd97
           have hl129 := Le.no (Add g2 (Add g1 M)) hS97
           have hC129 := hC12.no hS97
           have d253 : PV RBox (Add g2 (Add g1 M)) ({ Sides := x1.1.Sides } : Box) (D 1) w129 := dpA hd97 1 Z
           have d254 : PV RBox (Add g2 (Add g1 M)) ({ Sides := x1.2.Sides } : Box) (D 2) w129 := dpA hd97 2 Z
           generalize hq34 : (D 1) = v64 at d253
           generalize hq35 : (D 2) = v65 at d254
           refine Zs (E' := [(50, v64), (51, v65)]) ⟨(congrArg some hq34), (congrArg some hq35), trivial⟩ (Zp Z (Zk Z Z Tryd.call63 (w_impl_BoxCut (hG.mono (lz31.trans hl129)) hC129.old d253 d254 hx7) fun v66 w130 hv66 => ?_))
           obtain ⟨hv66, hb33⟩ := hv66
           exact ⟨hb33, hv66⟩
          ·
           intro w131 D hS98 hd98
           have d255 : PV (RSlice RBox) (Add g2 (Add g1 M)) x7 (D 3) w131 := dpA hd98 3 Z
           generalize hq36 : (D 3) = v67 at d255
           exact Zs (E' := [(52, v67)]) ⟨(congrArg some hq36), trivial⟩ (Zp Z (ow_len Z Z d255 Tryd.underlying64 Z Zb))
          ·
           intro w132 D hS99 hd99
           exact Zs (E' := [(53, (.int .i64 (x7.length : Int)))]) ⟨(dpE hd99 4 Z Z), trivial⟩ (Zp Z (ow_eqlI Z Z Z fun bb15 hbb15 => ⟨BX.refl _ _, (congrArg Value.bool hbb15)⟩))
          ·
           intro w133 D hS100 hd100
           have d258 : PEq (.bool ((x7.length : Int) == 0)) (D 5) w133 := dpA hd100 5 Z
           obtain ⟨bb16, hq37, hq38⟩ : ∃ b, b = ((x7.length : Int) == 0) ∧ (D 5) = .bool b := ⟨_, rfl, d258⟩
           refine Zs (E' := [(49, (.bool true)), (54, (.bool bb16))]) ⟨(dpE hd100 0 Z Z), (congrArg some hq38), trivial⟩ (Zp Z (ow_eqlB Z Z Z Tryd.underlying4 fun bb17 hbb17 => ?_))
           have hbb17' : bb17 = (true == ((x7.length : Int) == 0)) := hbb17.trans (by rw [hq37])
           obtain rfl := hbb17'.trans hc6
           exact Zb
          ·
           intro w134 D hS101 hd101
           exact Zs (E' := [(55, (.bool true))]) ⟨(dpE hd101 6 Z Z), trivial⟩ (Zp Z (Zm Z Z Zb))
          ·
           intro w135 D hS102 hd102
           exact Zs (E' := [(56, (.bool true)), (7, (.bool true))]) ⟨(dpE hd102 7 Z Z), Z, trivial⟩ (dg_on Z Z Z Z (Zm Z Z Zb))
          ·
           intro w136 D hS103 hd103
           exact Zs (E' := [(57, (.bool true)), (56, (.bool true))]) ⟨(dpE hd103 8 Z Z), (dpE hd103 7 Z Z), trivial⟩ (dg_on Z Z Z Z (ow_not Z Z Zb))
          ·
           intro w137 D hS104 hd104
           exact Zs (E' := [(58, (.bool false)), (56, (.bool true))]) ⟨(dpE hd104 9 Z Z), (dpE hd104 7 Z Z), trivial⟩ (dg_on Z Z Z Z (Zm Z Z Zb))
          ·
           intro w138 D hS105 hd105
           have hl138 := Le.no (Add g2 (Add g1 M)) hS105
           have ho272 := ho20.no hS105
           refine Zs (E' := [(59, (.bool false)), (5, (.pointer (some ⟨g1, 0, none⟩)))]) ⟨(dpE hd105 10 Z Z), Z, trivial⟩ (dg_on Z Z Z Z (ow_loadOwnA Z Z Z ho272 (Tryd.isAgg48 _) (Tryd.sizeOf48 _) Z ?_))
           have hw41 : VRep RBox w138 (Add g2 (Add g1 M)) ({ Sides := x1.1.Sides } : Box) (.agg #[(.slice A1 x1.1.Sides.length c1)]) := shut_Box (VRep.mono (lz32.trans hl138) hw1)
           exact ⟨BX.refl _ _, hw41⟩
          ·
           intro w139 D hS106 hd106
           have hl139 := Le.no (Add g2 (Add g1 M)) hS106
           exact Zs (E' := [(59, (.bool false)), (8, (.pointer (some p2)))]) ⟨(dpE hd106 10 Z Z), Z, trivial⟩ (dg_on Z Z Z Z (Zl (R := RPacket) Z Z (ARep.mono hl139 hp2) (Tryd.sizeOf27 _) (Tryd.isAgg27 _) fun v68 hv68 => ⟨BX.refl _ _, hv68⟩))
          ·
           intro w140 D hS107 hd107
           have hl140 := Le.no (Add g2 (Add g1 M)) hS107
           have hC140 := hC12.no hS107
           have d269 : PV RBox (Add g2 (Add g1 M)) ({ Sides := x1.1.Sides } : Box) (D 11) w140 := dpA hd107 11 Z
           have d270 : PV RPacket (Add g2 (Add g1 M)) x6 (D 12) w140 := dpA hd107 12 Z
           generalize hq39 : (D 11) = v69 at d269
           generalize hq40 : (D 12) = v70 at d270
           refine Zs (E' := [(60, v69), (61, v70), (59, (.bool false))]) ⟨(congrArg some hq39), (congrArg some hq40), (dpE hd107 10 Z Z), trivial⟩ (dg_on Z Z Z Z (Zk Z Z Tryd.call73 (w_impl_BoxHas (hG.mono (lz31.trans hl140)) hC140.old d269 d270 hx8) fun v71 w141 hv71 => ?_))
           obtain ⟨hv71, hb34⟩ := hv71
           obtain rfl := vbool_eq hv71
           exact ⟨hb34, Z⟩
          ·
           intro w142 D hS108 hd108
           exact Zs (E' := [(62, (.bool false)), (59, (.bool false))]) ⟨(dpE hd108 13 Z Z), (dpE hd108 10 Z Z), trivial⟩ (dg_on Z Z Z Z (ow_not Z Z Zb))
          ·
           intro w143 D hS109 hd109
           exact Zs (E' := [(59, (.bool false)), (63, (.bool true)), (56, (.bool true))]) ⟨(dpE hd109 10 Z Z), (dpE hd109 14 Z Z), (dpE hd109 7 Z Z), trivial⟩ (dg_on Z Z Z Z (ow_pickF Z Z Z Zb))
          ·
           intro w144 D hS110 hd110
           exact Zs (E' := [(64, (.bool true)), (56, (.bool true))]) ⟨(dpE hd110 15 Z Z), (dpE hd110 7 Z Z), trivial⟩ (dg_on Z Z Z Z (Zm Z Z Zb))
          ·
           intro w145 D hS111 hd111
           exact Zs (E' := [(65, (.bool true)), (6, (.pointer (some ⟨g2, 0, none⟩)))]) ⟨(dpE hd111 16 Z Z), Z, trivial⟩ (dg_off Z Z Z Z Zb)
          ·
           intro w146 D hS112 hd112
           exact Zs (E' := [(65, (.bool true)), (8, (.pointer (some p2)))]) ⟨(dpE hd112 16 Z Z), Z, trivial⟩ (dg_off Z Z Z Z Zb)
          ·
           intro w147 D hS113 hd113
           exact Zs (E' := [(66, undef), (67, undef), (65, (.bool true))]) ⟨(dpE hd113 17 Z Z), (dpE hd113 18 Z Z), (dpE hd113 16 Z Z), trivial⟩ (dg_off Z Z Z Z Zb)
          ·
           intro w148 D hS114 hd114
           exact Zs (E' := [(65, (.bool true)), (68, undef), (56, (.bool true))]) ⟨(dpE hd114 16 Z Z), (dpE hd114 19 Z Z), (dpE hd114 7 Z Z), trivial⟩ (dg_on Z Z Z Z (ow_pickT Z Z Z Zb))
          ·
           intro w149 D hS115 hd115
           exact Zs (E' := [(56, (.bool true)), (69, (.bool true))]) ⟨(dpE hd115 7 Z Z), (dpE hd115 20 Z Z), trivial⟩ (Zp Z (ow_pickT Z Z Z Zb))
          ·
           intro w150 D hS116 hd116
           exact Zs (E' := [(70, (.bool true))]) ⟨(dpE hd116 21 Z Z), trivial⟩ (Zp Z (Zm Z Z Zb))
          ·
           intro w151 D hS117 hd117
           have hl151 := Le.no (Add g2 (Add g1 M)) hS117
           have ho298 := ho20.no hS117
           refine Zs (E' := [(71, (.bool true)), (5, (.pointer (some ⟨g1, 0, none⟩)))]) ⟨(dpE hd117 22 Z Z), Z, trivial⟩ (dg_on Z Z Z Z (ow_loadOwnA Z Z Z ho298 (Tryd.isAgg48 _) (Tryd.sizeOf48 _) Z ?_))
           have hw42 : VRep RBox w151 (Add g2 (Add g1 M)) ({ Sides := x1.1.Sides } : Box) (.agg #[(.slice A1 x1.1.Sides.length c1)]) := shut_Box (VRep.mono (lz32.trans hl151) hw1)
           exact ⟨BX.refl _ _, hw42⟩
          ·
           intro w152 D hS118 hd118
           have hl152 := Le.no (Add g2 (Add g1 M)) hS118
           have ho300 := ho20.no hS118
           refine Zs (E' := [(71, (.bool true)), (5, (.pointer (some ⟨g1, 0, none⟩)))]) ⟨(dpE hd118 22 Z Z), Z, trivial⟩ (dg_on Z Z Z Z (ow_loadOwnA Z Z Z ho300 (Tryd.isAgg48 _) (Tryd.sizeOf48 _) Z ?_))
           have hw43 : VRep RBox w152 (Add g2 (Add g1 M)) ({ Sides := x1.1.Sides } : Box) (.agg #[(.slice A1 x1.1.Sides.length c1)]) := shut_Box (VRep.mono (lz32.trans hl152) hw1)
           exact ⟨BX.refl _ _, hw43⟩
          ·
           intro w153 D hS119 hd119
           have hl153 := Le.no (Add g2 (Add g1 M)) hS119
           have hC153 := hC12.no hS119
           have d296 : PV RBox (Add g2 (Add g1 M)) ({ Sides := x1.1.Sides } : Box) (D 23) w153 := dpA hd119 23 Z
           have d297 : PV RBox (Add g2 (Add g1 M)) ({ Sides := x1.1.Sides } : Box) (D 24) w153 := dpA hd119 24 Z
           generalize hq41 : (D 23) = v72 at d296
           generalize hq42 : (D 24) = v73 at d297
           refine Zs (E' := [(72, v72), (73, v73), (71, (.bool true))]) ⟨(congrArg some hq41), (congrArg some hq42), (dpE hd119 22 Z Z), trivial⟩ (dg_on Z Z Z Z (Zk Z Z Tryd.call69 (w_impl_BoxWithin (hG.mono (lz31.trans hl153)) hC153.old d296 d297 hx13) fun v74 w154 hv74 => ?_))
           obtain ⟨hv74, hb35⟩ := hv74
           obtain rfl := vbool_eq hv74
           exact ⟨hb35, Z⟩
          ·
           intro w155 D hS120 hd120
           exact Zs (E' := [(71, (.bool true)), (74, (.bool true))]) ⟨(dpE hd120 22 Z Z), (dpE hd120 25 Z Z), trivial⟩ (Zp Z (ow_pickT Z Z Z Zb))
          ·
           intro w156 D hS121 hd121
           exact Zs (E' := [(75, (.bool true))]) ⟨(dpE hd121 26 Z Z), trivial⟩ (Zp Z (Zm Z Z Zb))
          ·
           intro w157 D hS122 hd122
           have hl157 := Le.no (Add g2 (Add g1 M)) hS122
           have ho310 := ho20.no hS122
           refine Zs (E' := [(76, (.bool true)), (5, (.pointer (some ⟨g1, 0, none⟩)))]) ⟨(dpE hd122 27 Z Z), Z, trivial⟩ (dg_on Z Z Z Z (ow_loadOwnA Z Z Z ho310 (Tryd.isAgg48 _) (Tryd.sizeOf48 _) Z ?_))
           have hw44 : VRep RBox w157 (Add g2 (Add g1 M)) ({ Sides := x1.1.Sides } : Box) (.agg #[(.slice A1 x1.1.Sides.length c1)]) := shut_Box (VRep.mono (lz32.trans hl157) hw1)
           exact ⟨BX.refl _ _, hw44⟩
          ·
           intro w158 D hS123 hd123
           have hl158 := Le.no (Add g2 (Add g1 M)) hS123
           have hC158 := hC12.no hS123
           refine Zs (E' := [(76, (.bool true))]) ⟨(dpE hd123 27 Z Z), trivial⟩ (dg_on Z Z Z Z (Zk Z Z Tryd.call74 (w_impl_BoxAll (hG.mono (lz31.trans hl158)) hC158.old hx14) fun v75 w159 hv75 => ?_))
           obtain ⟨hv75, hb36⟩ := hv75
           exact ⟨hb36, hv75⟩
          ·
           intro w160 D hS124 hd124
           have d335 : PV RBox (Add g2 (Add g1 M)) ({ Sides := x1.1.Sides } : Box) (D 28) w160 := dpA hd124 28 Z
           have d336 : PV RBox (Add g2 (Add g1 M)) x14 (D 29) w160 := dpA hd124 29 Z
           have hl160 := Le.no (Add g2 (Add g1 M)) hS124
           have hC160 := hC12.no hS124
           generalize hq43 : (D 28) = v76 at d335
           generalize hq44 : (D 29) = v77 at d336
           refine lw_sub (E' := [(76, (.bool true)), (77, v76), (78, v77), (4, (.bool false)), (5, (.pointer (some ⟨g1, 0, none⟩))), (6, (.pointer (some ⟨g2, 0, none⟩))), (7, (.bool true)), (8, (.pointer (some p2)))]) ⟨(dpE hd124 27 Z Z), (congrArg some hq43), (congrArg some hq44), Z, Z, Z, Z, Z, trivial⟩ ?_
           replace h := bind_some h
           obtain ⟨x15, hx15, h⟩ := h
           refine lw_on Z Z Z Z Z Z (Zk Z Z Tryd.call69 (w_impl_BoxWithin (hG.mono (lz31.trans hl160)) hC160.old d335 d336 hx15) fun v78 w161 hv78 => ?_)
           obtain ⟨hv78, hb37⟩ := hv78
           have hC161 := hC160.no hb37
           obtain rfl := vbool_eq hv78
           refine Zo Z Z Z (ow_pickT Z Z Z (Zo Z Z Z (Za Z Z (Zn (Ze (Zy ?_))))))
           obtain rfl := sj h
           exact ew_ret (res1 Z (.tmp Z)) ⟨_, Z, ((vbool _)), hC161.bx⟩
         ·
          subst hc11
          have lz39 := ((lz6.trans hl11).trans hl12)
          have lz40 := (((lz5.trans hl10).trans hl11).trans hl12)
          refine cw_sub (E' := [(4, (.bool false)), (5, (.pointer (some ⟨g1, 0, none⟩))), (6, (.pointer (some ⟨g2, 0, none⟩))), (7, (.bool true)), (8, (.pointer (some p2)))]) ⟨Z, Z, Z, Z, Z, trivial⟩ (cw_drawQ 30 [PEq (.bool true), PV RBox (Add g2 (Add g1 M)) ({ Sides := x1.1.Sides } : Box), PV RBox (Add g2 (Add g1 M)) ({ Sides := x1.2.Sides } : Box), PV (RSlice RBox) (Add g2 (Add g1 M)) x7, PEq (.int .i64 (x7.length : Int)), PEq (.bool ((x7.length : Int) == 0)), PEq (.bool true), PEq (.bool true), PEq (.bool true), PEq (.bool false), PEq (.bool false), PV RBox (Add g2 (Add g1 M)) ({ Sides := x1.1.Sides } : Box), PV RPacket (Add g2 (Add g1 M)) x6, PEq (.bool false), PEq (.bool true), PEq (.bool true), PEq (.bool true), PEq undef, PEq undef, PEq undef, PEq (.bool true), PEq (.bool true), PEq (.bool true), PV RBox (Add g2 (Add g1 M)) ({ Sides := x1.1.Sides } : Box), PV RBox (Add g2 (Add g1 M)) ({ Sides := x1.1.Sides } : Box), PEq (.bool false), PEq (.bool false), PEq (.bool false), PEq undef, PEq undef] (by kernel_rfl) Z (by kernel_rfl) ⟨Zq, PV.mono _ _ _, PV.mono _ _ _, PV.mono _ _ _, Zq, Zq, Zq, Zq, Zq, Zq, Zq, PV.mono _ _ _, PV.mono _ _ _, Zq, Zq, Zq, Zq, Zq, Zq, Zq, Zq, Zq, Zq, PV.mono _ _ _, PV.mono _ _ _, Zq, Zq, Zq, Zq, Zq, trivial⟩ ⟨?_, ?_, ?_, ?_, ?_, ?_, ?_, ?_, ?_, ?_, ?_, ?_, ?_, ?_, ?_, ?_, ?_, ?_, ?_, ?_, ?_, ?_, ?_, ?_, ?_, ?_, ?_, ?_, ?_, ?_, trivial⟩ ?_)
          ·
           intro w162 D hS125 hd125
           exact Zs (E' := [(7, (.bool true))]) ⟨Z, trivial⟩ (Zp Z (Zm Z Z Zb))
          ·
           intro w163 D hS126 hd126
           have hl163 := Le.no (Add g2 (Add g1 M)) hS126
           have ho322 := ho20.no hS126
           refine Zs (E' := [(5, (.pointer (some ⟨g1, 0, none⟩)))]) ⟨Z, trivial⟩ (Zp Z (ow_loadOwnA Z Z Z ho322 (Tryd.isAgg48 _) (Tryd.sizeOf48 _) Z ?_))
           have hw45 : VRep RBox w163 (Add g2 (Add g1 M)) ({ Sides := x1.1.Sides } : Box) (.agg #[(.slice A1 x1.1.Sides.length c1)]) := shut_Box (VRep.mono (lz40.trans hl163) hw1)
           exact ⟨BX.refl _ _, hw45⟩
          ·
           intro w164 D hS127 hd127
           have hl164 := Le.no (Add g2 (Add g1 M)) hS127
           have ho325 := ho21.no hS127
           refine Zs (E' := [(6, (.pointer (some ⟨g2, 0, none⟩)))]) ⟨Z, trivial⟩ (Zp Z (ow_loadOwnA Z Z Z ho325 (Tryd.isAgg48 _) (Tryd.sizeOf48 _) Z ?_))
           have hw46 : VRep RBox w164 (Add g2 (Add g1 M)) ({ Sides := x1.2.Sides } : Box) (.agg #[(.slice A2 x1.2.Sides.length c2)]) := shut_Box (VRep.mono (lz40.trans hl164) hw2)
           exact ⟨BX.refl _ _, hw46⟩
          ·
           intro w165 D hS128 hd128
           have hl165 := Le.no (Add g2 (Add g1 M)) hS128
           have hC165 := hC12.no hS128
           have d337 : PV RBox (Add g2 (Add g1 M)) ({ Sides := x1.1.Sides } : Box) (D 1) w165 := dpA hd128 1 Z
           have d338 : PV RBox (Add g2 (Add g1 M)) ({ Sides := x1.2.Sides } : Box) (D 2) w165 := dpA hd128 2 Z
           generalize hq45 : (D 1) = v79 at d337
           generalize hq46 : (D 2) = v80 at d338
           refine Zs (E' := [(50, v79), (51, v80)]) ⟨(congrArg some hq45), (congrArg some hq46), trivial⟩ (Zp Z (Zk Z Z Tryd.call63 (w_impl_BoxCut (hG.mono (lz39.trans hl165)) hC165.old d337 d338 hx7) fun v81 w166 hv81 => ?_))
           obtain ⟨hv81, hb38⟩ := hv81
           exact ⟨hb38, hv81⟩
          ·
           intro w167 D hS129 hd129
           have d339 : PV (RSlice RBox) (Add g2 (Add g1 M)) x7 (D 3) w167 := dpA hd129 3 Z
           generalize hq47 : (D 3) = v82 at d339
           exact Zs (E' := [(52, v82)]) ⟨(congrArg some hq47), trivial⟩ (Zp Z (ow_len Z Z d339 Tryd.underlying64 Z Zb))
          ·
           intro w168 D hS130 hd130
           exact Zs (E' := [(53, (.int .i64 (x7.length : Int)))]) ⟨(dpE hd130 4 Z Z), trivial⟩ (Zp Z (ow_eqlI Z Z Z fun bb18 hbb18 => ⟨BX.refl _ _, (congrArg Value.bool hbb18)⟩))
          ·
           intro w169 D hS131 hd131
           have d342 : PEq (.bool ((x7.length : Int) == 0)) (D 5) w169 := dpA hd131 5 Z
           obtain ⟨bb19, hq48, hq49⟩ : ∃ b, b = ((x7.length : Int) == 0) ∧ (D 5) = .bool b := ⟨_, rfl, d342⟩
           refine Zs (E' := [(49, (.bool true)), (54, (.bool bb19))]) ⟨(dpE hd131 0 Z Z), (congrArg some hq49), trivial⟩ (Zp Z (ow_eqlB Z Z Z Tryd.underlying4 fun bb20 hbb20 => ?_))
           have hbb20' : bb20 = (true == ((x7.length : Int) == 0)) := hbb20.trans (by rw [hq48])
           obtain rfl := hbb20'.trans hc6
           exact Zb
          ·
           intro w170 D hS132 hd132
           exact Zs (E' := [(55, (.bool true))]) ⟨(dpE hd132 6 Z Z), trivial⟩ (Zp Z (Zm Z Z Zb))
          ·
           intro w171 D hS133 hd133
           exact Zs (E' := [(56, (.bool true)), (7, (.bool true))]) ⟨(dpE hd133 7 Z Z), Z, trivial⟩ (dg_on Z Z Z Z (Zm Z Z Zb))
          ·
           intro w172 D hS134 hd134
           exact Zs (E' := [(57, (.bool true)), (56, (.bool true))]) ⟨(dpE hd134 8 Z Z), (dpE hd134 7 Z Z), trivial⟩ (dg_on Z Z Z Z (ow_not Z Z Zb))
          ·
           intro w173 D hS135 hd135
           exact Zs (E' := [(58, (.bool false)), (56, (.bool true))]) ⟨(dpE hd135 9 Z Z), (dpE hd135 7 Z Z), trivial⟩ (dg_on Z Z Z Z (Zm Z Z Zb))
          ·
           intro w174 D hS136 hd136
           have hl174 := Le.no (Add g2 (Add g1 M)) hS136
           have ho344 := ho20.no hS136
           refine Zs (E' := [(59, (.bool false)), (5, (.pointer (some ⟨g1, 0, none⟩)))]) ⟨(dpE hd136 10 Z Z), Z, trivial⟩ (dg_on Z Z Z Z (ow_loadOwnA Z Z Z ho344 (Tryd.isAgg48 _) (Tryd.sizeOf48 _) Z ?_))
           have hw47 : VRep RBox w174 (Add g2 (Add g1 M)) ({ Sides := x1.1.Sides } : Box) (.agg #[(.slice A1 x1.1.Sides.length c1)]) := shut_Box (VRep.mono (lz40.trans hl174) hw1)
           exact ⟨BX.refl _ _, hw47⟩
          ·
           intro w175 D hS137 hd137
           have hl175 := Le.no (Add g2 (Add g1 M)) hS137
           exact Zs (E' := [(59, (.bool false)), (8, (.pointer (some p2)))]) ⟨(dpE hd137 10 Z Z), Z, trivial⟩ (dg_on Z Z Z Z (Zl (R := RPacket) Z Z (ARep.mono hl175 hp2) (Tryd.sizeOf27 _) (Tryd.isAgg27 _) fun v83 hv83 => ⟨BX.refl _ _, hv83⟩))
          ·
           intro w176 D hS138 hd138
           have hl176 := Le.no (Add g2 (Add g1 M)) hS138
           have hC176 := hC12.no hS138
           have d353 : PV RBox (Add g2 (Add g1 M)) ({ Sides := x1.1.Sides } : Box) (D 11) w176 := dpA hd138 11 Z
           have d354 : PV RPacket (Add g2 (Add g1 M)) x6 (D 12) w176 := dpA hd138 12 Z
           generalize hq50 : (D 11) = v84 at d353
           generalize hq51 : (D 12) = v85 at d354
           refine Zs (E' := [(60, v84), (61, v85), (59, (.bool false))]) ⟨(congrArg some hq50), (congrArg some hq51), (dpE hd138 10 Z Z), trivial⟩ (dg_on Z Z Z Z (Zk Z Z Tryd.call73 (w_impl_BoxHas (hG.mono (lz39.trans hl176)) hC176.old d353 d354 hx8) fun v86 w177 hv86 => ?_))
           obtain ⟨hv86, hb39⟩ := hv86
           obtain rfl := vbool_eq hv86
           exact ⟨hb39, Z⟩
          ·
           intro w178 D hS139 hd139
           exact Zs (E' := [(62, (.bool false)), (59, (.bool false))]) ⟨(dpE hd139 13 Z Z), (dpE hd139 10 Z Z), trivial⟩ (dg_on Z Z Z Z (ow_not Z Z Zb))
          ·
           intro w179 D hS140 hd140
           exact Zs (E' := [(59, (.bool false)), (63, (.bool true)), (56, (.bool true))]) ⟨(dpE hd140 10 Z Z), (dpE hd140 14 Z Z), (dpE hd140 7 Z Z), trivial⟩ (dg_on Z Z Z Z (ow_pickF Z Z Z Zb))
          ·
           intro w180 D hS141 hd141
           exact Zs (E' := [(64, (.bool true)), (56, (.bool true))]) ⟨(dpE hd141 15 Z Z), (dpE hd141 7 Z Z), trivial⟩ (dg_on Z Z Z Z (Zm Z Z Zb))
          ·
           intro w181 D hS142 hd142
           exact Zs (E' := [(65, (.bool true)), (6, (.pointer (some ⟨g2, 0, none⟩)))]) ⟨(dpE hd142 16 Z Z), Z, trivial⟩ (dg_off Z Z Z Z Zb)
          ·
           intro w182 D hS143 hd143
           exact Zs (E' := [(65, (.bool true)), (8, (.pointer (some p2)))]) ⟨(dpE hd143 16 Z Z), Z, trivial⟩ (dg_off Z Z Z Z Zb)
          ·
           intro w183 D hS144 hd144
           exact Zs (E' := [(66, undef), (67, undef), (65, (.bool true))]) ⟨(dpE hd144 17 Z Z), (dpE hd144 18 Z Z), (dpE hd144 16 Z Z), trivial⟩ (dg_off Z Z Z Z Zb)
          ·
           intro w184 D hS145 hd145
           exact Zs (E' := [(65, (.bool true)), (68, undef), (56, (.bool true))]) ⟨(dpE hd145 16 Z Z), (dpE hd145 19 Z Z), (dpE hd145 7 Z Z), trivial⟩ (dg_on Z Z Z Z (ow_pickT Z Z Z Zb))
          ·
           intro w185 D hS146 hd146
           exact Zs (E' := [(56, (.bool true)), (69, (.bool true))]) ⟨(dpE hd146 7 Z Z), (dpE hd146 20 Z Z), trivial⟩ (Zp Z (ow_pickT Z Z Z Zb))
          ·
           intro w186 D hS147 hd147
           exact Zs (E' := [(70, (.bool true))]) ⟨(dpE hd147 21 Z Z), trivial⟩ (Zp Z (Zm Z Z Zb))
          ·
           intro w187 D hS148 hd148
           have hl187 := Le.no (Add g2 (Add g1 M)) hS148
           have ho370 := ho20.no hS148
           refine Zs (E' := [(71, (.bool true)), (5, (.pointer (some ⟨g1, 0, none⟩)))]) ⟨(dpE hd148 22 Z Z), Z, trivial⟩ (dg_on Z Z Z Z (ow_loadOwnA Z Z Z ho370 (Tryd.isAgg48 _) (Tryd.sizeOf48 _) Z ?_))
           have hw48 : VRep RBox w187 (Add g2 (Add g1 M)) ({ Sides := x1.1.Sides } : Box) (.agg #[(.slice A1 x1.1.Sides.length c1)]) := shut_Box (VRep.mono (lz40.trans hl187) hw1)
           exact ⟨BX.refl _ _, hw48⟩
          ·
           intro w188 D hS149 hd149
           have hl188 := Le.no (Add g2 (Add g1 M)) hS149
           have ho372 := ho20.no hS149
           refine Zs (E' := [(71, (.bool true)), (5, (.pointer (some ⟨g1, 0, none⟩)))]) ⟨(dpE hd149 22 Z Z), Z, trivial⟩ (dg_on Z Z Z Z (ow_loadOwnA Z Z Z ho372 (Tryd.isAgg48 _) (Tryd.sizeOf48 _) Z ?_))
           have hw49 : VRep RBox w188 (Add g2 (Add g1 M)) ({ Sides := x1.1.Sides } : Box) (.agg #[(.slice A1 x1.1.Sides.length c1)]) := shut_Box (VRep.mono (lz40.trans hl188) hw1)
           exact ⟨BX.refl _ _, hw49⟩
          ·
           intro w189 D hS150 hd150
           have hl189 := Le.no (Add g2 (Add g1 M)) hS150
           have hC189 := hC12.no hS150
           have d380 : PV RBox (Add g2 (Add g1 M)) ({ Sides := x1.1.Sides } : Box) (D 23) w189 := dpA hd150 23 Z
           have d381 : PV RBox (Add g2 (Add g1 M)) ({ Sides := x1.1.Sides } : Box) (D 24) w189 := dpA hd150 24 Z
           generalize hq52 : (D 23) = v87 at d380
           generalize hq53 : (D 24) = v88 at d381
           refine Zs (E' := [(72, v87), (73, v88), (71, (.bool true))]) ⟨(congrArg some hq52), (congrArg some hq53), (dpE hd150 22 Z Z), trivial⟩ (dg_on Z Z Z Z (Zk Z Z Tryd.call69 (w_impl_BoxWithin (hG.mono (lz39.trans hl189)) hC189.old d380 d381 hx13) fun v89 w190 hv89 => ?_))
           obtain ⟨hv89, hb40⟩ := hv89
           obtain rfl := vbool_eq hv89
           exact ⟨hb40, Z⟩
          ·
           intro w191 D hS151 hd151
           exact Zs (E' := [(71, (.bool true)), (74, (.bool false))]) ⟨(dpE hd151 22 Z Z), (dpE hd151 25 Z Z), trivial⟩ (Zp Z (ow_pickT Z Z Z Zb))
          ·
           intro w192 D hS152 hd152
           exact Zs (E' := [(75, (.bool false))]) ⟨(dpE hd152 26 Z Z), trivial⟩ (Zp Z (Zm Z Z Zb))
          ·
           intro w193 D hS153 hd153
           exact Zs (E' := [(76, (.bool false)), (5, (.pointer (some ⟨g1, 0, none⟩)))]) ⟨(dpE hd153 27 Z Z), Z, trivial⟩ (dg_off Z Z Z Z Zb)
          ·
           intro w194 D hS154 hd154
           exact Zs (E' := [(76, (.bool false))]) ⟨(dpE hd154 27 Z Z), trivial⟩ (dg_off Z Z Z Z Zb)
          ·
           intro w195 D hS155 hd155
           have hC195 := hC12.no hS155
           refine lw_sub (E' := [(76, (.bool false)), (77, undef), (78, undef), (4, (.bool false)), (5, (.pointer (some ⟨g1, 0, none⟩))), (6, (.pointer (some ⟨g2, 0, none⟩))), (7, (.bool true)), (8, (.pointer (some p2)))]) ⟨(dpE hd155 27 Z Z), (dpE hd155 28 Z Z), (dpE hd155 29 Z Z), Z, Z, Z, Z, Z, trivial⟩ (lw_off Z Z Z Z Z Z (Zo Z Z Z (ow_pickF Z Z Z (Zo Z Z Z (Za Z Z (Zn (Ze (Zy ?_))))))))
           obtain rfl := sj h
           exact ew_ret (res1 Z (.tmp Z)) ⟨_, Z, ((vbool _)), hC195.bx⟩
       ·
        subst hc7
        replace h := bind_some h
        obtain ⟨x16, hx16, h⟩ := h
        replace h := Zc h
        rcases h with ⟨hc12, h⟩ | ⟨hc12, h⟩
        ·
         subst hc12
         replace h := bind_some h
         obtain ⟨x17, hx17, h⟩ := h
         have lz47 := ((lz6.trans hl11).trans hl12)
         have lz48 := (((lz5.trans hl10).trans hl11).trans hl12)
         refine cw_sub (E' := [(4, (.bool false)), (5, (.pointer (some ⟨g1, 0, none⟩))), (6, (.pointer (some ⟨g2, 0, none⟩))), (7, (.bool false)), (8, (.pointer (some p2)))]) ⟨Z, Z, Z, Z, Z, trivial⟩ (cw_drawQ 30 [PEq (.bool false), PV RBox (Add g2 (Add g1 M)) ({ Sides := x1.1.Sides } : Box), PV RBox (Add g2 (Add g1 M)) ({ Sides := x1.2.Sides } : Box), PV (RSlice RBox) (Add g2 (Add g1 M)) x7, PEq (.int .i64 (x7.length : Int)), PEq (.bool ((x7.length : Int) == 0)), PEq (.bool true), PEq (.bool true), PEq (.bool false), PEq (.bool true), PEq (.bool true), PEq undef, PEq undef, PEq undef, PEq undef, PEq (.bool true), PEq (.bool true), PEq undef, PEq undef, PEq undef, PEq (.bool true), PEq (.bool true), PEq (.bool true), PV RBox (Add g2 (Add g1 M)) ({ Sides := x1.1.Sides } : Box), PV RBox (Add g2 (Add g1 M)) ({ Sides := x1.1.Sides } : Box), PEq (.bool true), PEq (.bool true), PEq (.bool true), PV RBox (Add g2 (Add g1 M)) ({ Sides := x1.1.Sides } : Box), PV RBox (Add g2 (Add g1 M)) x17] (by kernel_rfl) Z (by kernel_rfl) ⟨Zq, PV.mono _ _ _, PV.mono _ _ _, PV.mono _ _ _, Zq, Zq, Zq, Zq, Zq, Zq, Zq, Zq, Zq, Zq, Zq, Zq, Zq, Zq, Zq, Zq, Zq, Zq, Zq, PV.mono _ _ _, PV.mono _ _ _, Zq, Zq, Zq, PV.mono _ _ _, PV.mono _ _ _, trivial⟩ ⟨?_, ?_, ?_, ?_, ?_, ?_, ?_, ?_, ?_, ?_, ?_, ?_, ?_, ?_, ?_, ?_, ?_, ?_, ?_, ?_, ?_, ?_, ?_, ?_, ?_, ?_, ?_, ?_, ?_, ?_, trivial⟩ ?_)
         ·
          intro w198 D hS156 hd156
          exact Zs (E' := [(7, (.bool false))]) ⟨Z, trivial⟩ (Zp Z (Zm Z Z Zb))
         ·
          intro w199 D hS157 hd157
          have hl199 := Le.no (Add g2 (Add g1 M)) hS157
          have ho394 := ho20.no hS157
          refine Zs (E' := [(5, (.pointer (some ⟨g1, 0, none⟩)))]) ⟨Z, trivial⟩ (Zp Z (ow_loadOwnA Z Z Z ho394 (Tryd.isAgg48 _) (Tryd.sizeOf48 _) Z ?_))
          have hw53 : VRep RBox w199 (Add g2 (Add g1 M)) ({ Sides := x1.1.Sides } : Box) (.agg #[(.slice A1 x1.1.Sides.length c1)]) := shut_Box (VRep.mono (lz48.trans hl199) hw1)
          exact ⟨BX.refl _ _, hw53⟩
         ·
          intro w200 D hS158 hd158
          have hl200 := Le.no (Add g2 (Add g1 M)) hS158
          have ho397 := ho21.no hS158
          refine Zs (E' := [(6, (.pointer (some ⟨g2, 0, none⟩)))]) ⟨Z, trivial⟩ (Zp Z (ow_loadOwnA Z Z Z ho397 (Tryd.isAgg48 _) (Tryd.sizeOf48 _) Z ?_))
          have hw54 : VRep RBox w200 (Add g2 (Add g1 M)) ({ Sides := x1.2.Sides } : Box) (.agg #[(.slice A2 x1.2.Sides.length c2)]) := shut_Box (VRep.mono (lz48.trans hl200) hw2)
          exact ⟨BX.refl _ _, hw54⟩
         ·
          intro w201 D hS159 hd159
          have hl201 := Le.no (Add g2 (Add g1 M)) hS159
          have hC201 := hC12.no hS159
          have d421 : PV RBox (Add g2 (Add g1 M)) ({ Sides := x1.1.Sides } : Box) (D 1) w201 := dpA hd159 1 Z
          have d422 : PV RBox (Add g2 (Add g1 M)) ({ Sides := x1.2.Sides } : Box) (D 2) w201 := dpA hd159 2 Z
          generalize hq54 : (D 1) = v92 at d421
          generalize hq55 : (D 2) = v93 at d422
          refine Zs (E' := [(50, v92), (51, v93)]) ⟨(congrArg some hq54), (congrArg some hq55), trivial⟩ (Zp Z (Zk Z Z Tryd.call63 (w_impl_BoxCut (hG.mono (lz47.trans hl201)) hC201.old d421 d422 hx7) fun v94 w202 hv94 => ?_))
          obtain ⟨hv94, hb43⟩ := hv94
          exact ⟨hb43, hv94⟩
         ·
          intro w203 D hS160 hd160
          have d423 : PV (RSlice RBox) (Add g2 (Add g1 M)) x7 (D 3) w203 := dpA hd160 3 Z
          generalize hq56 : (D 3) = v95 at d423
          exact Zs (E' := [(52, v95)]) ⟨(congrArg some hq56), trivial⟩ (Zp Z (ow_len Z Z d423 Tryd.underlying64 Z Zb))
         ·
          intro w204 D hS161 hd161
          exact Zs (E' := [(53, (.int .i64 (x7.length : Int)))]) ⟨(dpE hd161 4 Z Z), trivial⟩ (Zp Z (ow_eqlI Z Z Z fun bb21 hbb21 => ⟨BX.refl _ _, (congrArg Value.bool hbb21)⟩))
         ·
          intro w205 D hS162 hd162
          have d426 : PEq (.bool ((x7.length : Int) == 0)) (D 5) w205 := dpA hd162 5 Z
          obtain ⟨bb22, hq57, hq58⟩ : ∃ b, b = ((x7.length : Int) == 0) ∧ (D 5) = .bool b := ⟨_, rfl, d426⟩
          refine Zs (E' := [(49, (.bool false)), (54, (.bool bb22))]) ⟨(dpE hd162 0 Z Z), (congrArg some hq58), trivial⟩ (Zp Z (ow_eqlB Z Z Z Tryd.underlying4 fun bb23 hbb23 => ?_))
          have hbb23' : bb23 = (false == ((x7.length : Int) == 0)) := hbb23.trans (by rw [hq57])
          obtain rfl := hbb23'.trans hc6
          exact Zb
         ·
          intro w206 D hS163 hd163
          exact Zs (E' := [(55, (.bool true))]) ⟨(dpE hd163 6 Z Z), trivial⟩ (Zp Z (Zm Z Z Zb))
         ·
          intro w207 D hS164 hd164
          exact Zs (E' := [(56, (.bool true)), (7, (.bool false))]) ⟨(dpE hd164 7 Z Z), Z, trivial⟩ (dg_on Z Z Z Z (Zm Z Z Zb))
         ·
          intro w208 D hS165 hd165
          exact Zs (E' := [(57, (.bool false)), (56, (.bool true))]) ⟨(dpE hd165 8 Z Z), (dpE hd165 7 Z Z), trivial⟩ (dg_on Z Z Z Z (ow_not Z Z Zb))
         ·
          intro w209 D hS166 hd166
          exact Zs (E' := [(58, (.bool true)), (56, (.bool true))]) ⟨(dpE hd166 9 Z Z), (dpE hd166 7 Z Z), trivial⟩ (dg_on Z Z Z Z (Zm Z Z Zb))
         ·
          intro w210 D hS167 hd167
          exact Zs (E' := [(59, (.bool true)), (5, (.pointer (some ⟨g1, 0, none⟩)))]) ⟨(dpE hd167 10 Z Z), Z, trivial⟩ (dg_off Z Z Z Z Zb)
         ·
          intro w211 D hS168 hd168
          exact Zs (E' := [(59, (.bool true)), (8, (.pointer (some p2)))]) ⟨(dpE hd168 10 Z Z), Z, trivial⟩ (dg_off Z Z Z Z Zb)
         ·
          intro w212 D hS169 hd169
          exact Zs (E' := [(60, undef), (61, undef), (59, (.bool true))]) ⟨(dpE hd169 11 Z Z), (dpE hd169 12 Z Z), (dpE hd169 10 Z Z), trivial⟩ (dg_off Z Z Z Z Zb)
         ·
          intro w213 D hS170 hd170
          exact Zs (E' := [(62, undef), (59, (.bool true))]) ⟨(dpE hd170 13 Z Z), (dpE hd170 10 Z Z), trivial⟩ (dg_off Z Z Z Z Zb)
         ·
          intro w214 D hS171 hd171
          exact Zs (E' := [(59, (.bool true)), (63, undef), (56, (.bool true))]) ⟨(dpE hd171 10 Z Z), (dpE hd171 14 Z Z), (dpE hd171 7 Z Z), trivial⟩ (dg_on Z Z Z Z (ow_pickT Z Z Z Zb))
         ·
          intro w215 D hS172 hd172
          exact Zs (E' := [(64, (.bool true)), (56, (.bool true))]) ⟨(dpE hd172 15 Z Z), (dpE hd172 7 Z Z), trivial⟩ (dg_on Z Z Z Z (Zm Z Z Zb))
         ·
          intro w216 D hS173 hd173
          exact Zs (E' := [(65, (.bool true)), (6, (.pointer (some ⟨g2, 0, none⟩)))]) ⟨(dpE hd173 16 Z Z), Z, trivial⟩ (dg_off Z Z Z Z Zb)
         ·
          intro w217 D hS174 hd174
          exact Zs (E' := [(65, (.bool true)), (8, (.pointer (some p2)))]) ⟨(dpE hd174 16 Z Z), Z, trivial⟩ (dg_off Z Z Z Z Zb)
         ·
          intro w218 D hS175 hd175
          exact Zs (E' := [(66, undef), (67, undef), (65, (.bool true))]) ⟨(dpE hd175 17 Z Z), (dpE hd175 18 Z Z), (dpE hd175 16 Z Z), trivial⟩ (dg_off Z Z Z Z Zb)
         ·
          intro w219 D hS176 hd176
          exact Zs (E' := [(65, (.bool true)), (68, undef), (56, (.bool true))]) ⟨(dpE hd176 16 Z Z), (dpE hd176 19 Z Z), (dpE hd176 7 Z Z), trivial⟩ (dg_on Z Z Z Z (ow_pickT Z Z Z Zb))
         ·
          intro w220 D hS177 hd177
          exact Zs (E' := [(56, (.bool true)), (69, (.bool true))]) ⟨(dpE hd177 7 Z Z), (dpE hd177 20 Z Z), trivial⟩ (Zp Z (ow_pickT Z Z Z Zb))
         ·
          intro w221 D hS178 hd178
          exact Zs (E' := [(70, (.bool true))]) ⟨(dpE hd178 21 Z Z), trivial⟩ (Zp Z (Zm Z Z Zb))
         ·
          intro w222 D hS179 hd179
          have hl222 := Le.no (Add g2 (Add g1 M)) hS179
          have ho440 := ho20.no hS179
          refine Zs (E' := [(71, (.bool true)), (5, (.pointer (some ⟨g1, 0, none⟩)))]) ⟨(dpE hd179 22 Z Z), Z, trivial⟩ (dg_on Z Z Z Z (ow_loadOwnA Z Z Z ho440 (Tryd.isAgg48 _) (Tryd.sizeOf48 _) Z ?_))
          have hw55 : VRep RBox w222 (Add g2 (Add g1 M)) ({ Sides := x1.1.Sides } : Box) (.agg #[(.slice A1 x1.1.Sides.length c1)]) := shut_Box (VRep.mono (lz48.trans hl222) hw1)
          exact ⟨BX.refl _ _, hw55⟩
         ·
          intro w223 D hS180 hd180
          have hl223 := Le.no (Add g2 (Add g1 M)) hS180
          have ho442 := ho20.no hS180
          refine Zs (E' := [(71, (.bool true)), (5, (.pointer (some ⟨g1, 0, none⟩)))]) ⟨(dpE hd180 22 Z Z), Z, trivial⟩ (dg_on Z Z Z Z (ow_loadOwnA Z Z Z ho442 (Tryd.isAgg48 _) (Tryd.sizeOf48 _) Z ?_))
          have hw56 : VRep RBox w223 (Add g2 (Add g1 M)) ({ Sides := x1.1.Sides } : Box) (.agg #[(.slice A1 x1.1.Sides.length c1)]) := shut_Box (VRep.mono (lz48.trans hl223) hw1)
          exact ⟨BX.refl _ _, hw56⟩
         ·
          intro w224 D hS181 hd181
          have hl224 := Le.no (Add g2 (Add g1 M)) hS181
          have hC224 := hC12.no hS181
          have d464 : PV RBox (Add g2 (Add g1 M)) ({ Sides := x1.1.Sides } : Box) (D 23) w224 := dpA hd181 23 Z
          have d465 : PV RBox (Add g2 (Add g1 M)) ({ Sides := x1.1.Sides } : Box) (D 24) w224 := dpA hd181 24 Z
          generalize hq59 : (D 23) = v96 at d464
          generalize hq60 : (D 24) = v97 at d465
          refine Zs (E' := [(72, v96), (73, v97), (71, (.bool true))]) ⟨(congrArg some hq59), (congrArg some hq60), (dpE hd181 22 Z Z), trivial⟩ (dg_on Z Z Z Z (Zk Z Z Tryd.call69 (w_impl_BoxWithin (hG.mono (lz47.trans hl224)) hC224.old d464 d465 hx16) fun v98 w225 hv98 => ?_))
          obtain ⟨hv98, hb44⟩ := hv98
          obtain rfl := vbool_eq hv98
          exact ⟨hb44, Z⟩
         ·
          intro w226 D hS182 hd182
          exact Zs (E' := [(71, (.bool true)), (74, (.bool true))]) ⟨(dpE hd182 22 Z Z), (dpE hd182 25 Z Z), trivial⟩ (Zp Z (ow_pickT Z Z Z Zb))
         ·
          intro w227 D hS183 hd183
          exact Zs (E' := [(75, (.bool true))]) ⟨(dpE hd183 26 Z Z), trivial⟩ (Zp Z (Zm Z Z Zb))
         ·
          intro w228 D hS184 hd184
          have hl228 := Le.no (Add g2 (Add g1 M)) hS184
          have ho452 := ho20.no hS184
          refine Zs (E' := [(76, (.bool true)), (5, (.pointer (some ⟨g1, 0, none⟩)))]) ⟨(dpE hd184 27 Z Z), Z, trivial⟩ (dg_on Z Z Z Z (ow_loadOwnA Z Z Z ho452 (Tryd.isAgg48 _) (Tryd.sizeOf48 _) Z ?_))
          have hw57 : VRep RBox w228 (Add g2 (Add g1 M)) ({ Sides := x1.1.Sides } : Box) (.agg #[(.slice A1 x1.1.Sides.length c1)]) := shut_Box (VRep.mono (lz48.trans hl228) hw1)
          exact ⟨BX.refl _ _, hw57⟩
         ·
          intro w229 D hS185 hd185
          have hl229 := Le.no (Add g2 (Add g1 M)) hS185
          have hC229 := hC12.no hS185
          refine Zs (E' := [(76, (.bool true))]) ⟨(dpE hd185 27 Z Z), trivial⟩ (dg_on Z Z Z Z (Zk Z Z Tryd.call74 (w_impl_BoxAll (hG.mono (lz47.trans hl229)) hC229.old hx17) fun v99 w230 hv99 => ?_))
          obtain ⟨hv99, hb45⟩ := hv99
          exact ⟨hb45, hv99⟩
         ·
          intro w231 D hS186 hd186
          have d503 : PV RBox (Add g2 (Add g1 M)) ({ Sides := x1.1.Sides } : Box) (D 28) w231 := dpA hd186 28 Z
          have d504 : PV RBox (Add g2 (Add g1 M)) x17 (D 29) w231 := dpA hd186 29 Z
          have hl231 := Le.no (Add g2 (Add g1 M)) hS186
          have hC231 := hC12.no hS186
          generalize hq61 : (D 28) = v100 at d503
          generalize hq62 : (D 29) = v101 at d504
          refine lw_sub (E' := [(76, (.bool true)), (77, v100), (78, v101), (4, (.bool false)), (5, (.pointer (some ⟨g1, 0, none⟩))), (6, (.pointer (some ⟨g2, 0, none⟩))), (7, (.bool false)), (8, (.pointer (some p2)))]) ⟨(dpE hd186 27 Z Z), (congrArg some hq61), (congrArg some hq62), Z, Z, Z, Z, Z, trivial⟩ ?_
          replace h := bind_some h
          obtain ⟨x18, hx18, h⟩ := h
          refine lw_on Z Z Z Z Z Z (Zk Z Z Tryd.call69 (w_impl_BoxWithin (hG.mono (lz47.trans hl231)) hC231.old d503 d504 hx18) fun v102 w232 hv102 => ?_)
          obtain ⟨hv102, hb46⟩ := hv102
          have hC232 := hC231.no hb46
          obtain rfl := vbool_eq hv102
          refine Zo Z Z Z (ow_pickT Z Z Z (Zo Z Z Z (Za Z Z (Zn (Ze (Zy ?_))))))
          obtain rfl := sj h
          exact ew_ret (res1 Z (.tmp Z)) ⟨_, Z, ((vbool _)), hC232.bx⟩
        ·
         subst hc12
         have lz55 := ((lz6.trans hl11).trans hl12)
         have lz56 := (((lz5.trans hl10).trans hl11).trans hl12)
         refine cw_sub (E' := [(4, (.bool false)), (5, (.pointer (some ⟨g1, 0, none⟩))), (6, (.pointer (some ⟨g2, 0, none⟩))), (7, (.bool false)), (8, (.pointer (some p2)))]) ⟨Z, Z, Z, Z, Z, trivial⟩ (cw_drawQ 30 [PEq (.bool false), PV RBox (Add g2 (Add g1 M)) ({ Sides := x1.1.Sides } : Box), PV RBox (Add g2 (Add g1 M)) ({ Sides := x1.2.Sides } : Box), PV (RSlice RBox) (Add g2 (Add g1 M)) x7, PEq (.int .i64 (x7.length : Int)), PEq (.bool ((x7.length : Int) == 0)), PEq (.bool true), PEq (.bool true), PEq (.bool false), PEq (.bool true), PEq (.bool true), PEq undef, PEq undef, PEq undef, PEq undef, PEq (.bool true), PEq (.bool true), PEq undef, PEq undef, PEq undef, PEq (.bool true), PEq (.bool true), PEq (.bool true), PV RBox (Add g2 (Add g1 M)) ({ Sides := x1.1.Sides } : Box), PV RBox (Add g2 (Add g1 M)) ({ Sides := x1.1.Sides } : Box), PEq (.bool false), PEq (.bool false), PEq (.bool false), PEq undef, PEq undef] (by kernel_rfl) Z (by kernel_rfl) ⟨Zq, PV.mono _ _ _, PV.mono _ _ _, PV.mono _ _ _, Zq, Zq, Zq, Zq, Zq, Zq, Zq, Zq, Zq, Zq, Zq, Zq, Zq, Zq, Zq, Zq, Zq, Zq, Zq, PV.mono _ _ _, PV.mono _ _ _, Zq, Zq, Zq, Zq, Zq, trivial⟩ ⟨?_, ?_, ?_, ?_, ?_, ?_, ?_, ?_, ?_, ?_, ?_, ?_, ?_, ?_, ?_, ?_, ?_, ?_, ?_, ?_, ?_, ?_, ?_, ?_, ?_, ?_, ?_, ?_, ?_, ?_, trivial⟩ ?_)
         ·
          intro w233 D hS187 hd187
          exact Zs (E' := [(7, (.bool false))]) ⟨Z, trivial⟩ (Zp Z (Zm Z Z Zb))
         ·
          intro w234 D hS188 hd188
          have hl234 := Le.no (Add g2 (Add g1 M)) hS188
          have ho464 := ho20.no hS188
          refine Zs (E' := [(5, (.pointer (some ⟨g1, 0, none⟩)))]) ⟨Z, trivial⟩ (Zp Z (ow_loadOwnA Z Z Z ho464 (Tryd.isAgg48 _) (Tryd.sizeOf48 _) Z ?_))
          have hw58 : VRep RBox w234 (Add g2 (Add g1 M)) ({ Sides := x1.1.Sides } : Box) (.agg #[(.slice A1 x1.1.Sides.length c1)]) := shut_Box (VRep.mono (lz56.trans hl234) hw1)
          exact ⟨BX.refl _ _, hw58⟩
         ·
          intro w235 D hS189 hd189
          have hl235 := Le.no (Add g2 (Add g1 M)) hS189
          have ho467 := ho21.no hS189
          refine Zs (E' := [(6, (.pointer (some ⟨g2, 0, none⟩)))]) ⟨Z, trivial⟩ (Zp Z (ow_loadOwnA Z Z Z ho467 (Tryd.isAgg48 _) (Tryd.sizeOf48 _) Z ?_))
          have hw59 : VRep RBox w235 (Add g2 (Add g1 M)) ({ Sides := x1.2.Sides } : Box) (.agg #[(.slice A2 x1.2.Sides.length c2)]) := shut_Box (VRep.mono (lz56.trans hl235) hw2)
          exact ⟨BX.refl _ _, hw59⟩
         ·
          intro w236 D hS190 hd190
          have hl236 := Le.no (Add g2 (Add g1 M)) hS190
          have hC236 := hC12.no hS190
          have d505 : PV RBox (Add g2 (Add g1 M)) ({ Sides := x1.1.Sides } : Box) (D 1) w236 := dpA hd190 1 Z
          have d506 : PV RBox (Add g2 (Add g1 M)) ({ Sides := x1.2.Sides } : Box) (D 2) w236 := dpA hd190 2 Z
          generalize hq63 : (D 1) = v103 at d505
          generalize hq64 : (D 2) = v104 at d506
          refine Zs (E' := [(50, v103), (51, v104)]) ⟨(congrArg some hq63), (congrArg some hq64), trivial⟩ (Zp Z (Zk Z Z Tryd.call63 (w_impl_BoxCut (hG.mono (lz55.trans hl236)) hC236.old d505 d506 hx7) fun v105 w237 hv105 => ?_))
          obtain ⟨hv105, hb47⟩ := hv105
          exact ⟨hb47, hv105⟩
         ·
          intro w238 D hS191 hd191
          have d507 : PV (RSlice RBox) (Add g2 (Add g1 M)) x7 (D 3) w238 := dpA hd191 3 Z
          generalize hq65 : (D 3) = v106 at d507
          exact Zs (E' := [(52, v106)]) ⟨(congrArg some hq65), trivial⟩ (Zp Z (ow_len Z Z d507 Tryd.underlying64 Z Zb))
         ·
          intro w239 D hS192 hd192
          exact Zs (E' := [(53, (.int .i64 (x7.length : Int)))]) ⟨(dpE hd192 4 Z Z), trivial⟩ (Zp Z (ow_eqlI Z Z Z fun bb24 hbb24 => ⟨BX.refl _ _, (congrArg Value.bool hbb24)⟩))
         ·
          intro w240 D hS193 hd193
          have d510 : PEq (.bool ((x7.length : Int) == 0)) (D 5) w240 := dpA hd193 5 Z
          obtain ⟨bb25, hq66, hq67⟩ : ∃ b, b = ((x7.length : Int) == 0) ∧ (D 5) = .bool b := ⟨_, rfl, d510⟩
          refine Zs (E' := [(49, (.bool false)), (54, (.bool bb25))]) ⟨(dpE hd193 0 Z Z), (congrArg some hq67), trivial⟩ (Zp Z (ow_eqlB Z Z Z Tryd.underlying4 fun bb26 hbb26 => ?_))
          have hbb26' : bb26 = (false == ((x7.length : Int) == 0)) := hbb26.trans (by rw [hq66])
          obtain rfl := hbb26'.trans hc6
          exact Zb
         ·
          intro w241 D hS194 hd194
          exact Zs (E' := [(55, (.bool true))]) ⟨(dpE hd194 6 Z Z), trivial⟩ (Zp Z (Zm Z Z Zb))
         ·
          intro w242 D hS195 hd195
          exact Zs (E' := [(56, (.bool true)), (7, (.bool false))]) ⟨(dpE hd195 7 Z Z), Z, trivial⟩ (dg_on Z Z Z Z (Zm Z Z Zb))
         ·
          intro w243 D hS196 hd196
          exact Zs (E' := [(57, (.bool false)), (56, (.bool true))]) ⟨(dpE hd196 8 Z Z), (dpE hd196 7 Z Z), trivial⟩ (dg_on Z Z Z Z (ow_not Z Z Zb))
         ·
          intro w244 D hS197 hd197
          exact Zs (E' := [(58, (.bool true)), (56, (.bool true))]) ⟨(dpE hd197 9 Z Z), (dpE hd197 7 Z Z), trivial⟩ (dg_on Z Z Z Z (Zm Z Z Zb))
         ·
          intro w245 D hS198 hd198
          exact Zs (E' := [(59, (.bool true)), (5, (.pointer (some ⟨g1, 0, none⟩)))]) ⟨(dpE hd198 10 Z Z), Z, trivial⟩ (dg_off Z Z Z Z Zb)
         ·
          intro w246 D hS199 hd199
          exact Zs (E' := [(59, (.bool true)), (8, (.pointer (some p2)))]) ⟨(dpE hd199 10 Z Z), Z, trivial⟩ (dg_off Z Z Z Z Zb)
         ·
          intro w247 D hS200 hd200
          exact Zs (E' := [(60, undef), (61, undef), (59, (.bool true))]) ⟨(dpE hd200 11 Z Z), (dpE hd200 12 Z Z), (dpE hd200 10 Z Z), trivial⟩ (dg_off Z Z Z Z Zb)
         ·
          intro w248 D hS201 hd201
          exact Zs (E' := [(62, undef), (59, (.bool true))]) ⟨(dpE hd201 13 Z Z), (dpE hd201 10 Z Z), trivial⟩ (dg_off Z Z Z Z Zb)
         ·
          intro w249 D hS202 hd202
          exact Zs (E' := [(59, (.bool true)), (63, undef), (56, (.bool true))]) ⟨(dpE hd202 10 Z Z), (dpE hd202 14 Z Z), (dpE hd202 7 Z Z), trivial⟩ (dg_on Z Z Z Z (ow_pickT Z Z Z Zb))
         ·
          intro w250 D hS203 hd203
          exact Zs (E' := [(64, (.bool true)), (56, (.bool true))]) ⟨(dpE hd203 15 Z Z), (dpE hd203 7 Z Z), trivial⟩ (dg_on Z Z Z Z (Zm Z Z Zb))
         ·
          intro w251 D hS204 hd204
          exact Zs (E' := [(65, (.bool true)), (6, (.pointer (some ⟨g2, 0, none⟩)))]) ⟨(dpE hd204 16 Z Z), Z, trivial⟩ (dg_off Z Z Z Z Zb)
         ·
          intro w252 D hS205 hd205
          exact Zs (E' := [(65, (.bool true)), (8, (.pointer (some p2)))]) ⟨(dpE hd205 16 Z Z), Z, trivial⟩ (dg_off Z Z Z Z Zb)
         ·
          intro w253 D hS206 hd206
          exact Zs (E' := [(66, undef), (67, undef), (65, (.bool true))]) ⟨(dpE hd206 17 Z Z), (dpE hd206 18 Z Z), (dpE hd206 16 Z Z), trivial⟩ (dg_off Z Z Z Z Zb)
         ·
          intro w254 D hS207 hd207
          exact Zs (E' := [(65, (.bool true)), (68, undef), (56, (.bool true))]) ⟨(dpE hd207 16 Z Z), (dpE hd207 19 Z Z), (dpE hd207 7 Z Z), trivial⟩ (dg_on Z Z Z Z (ow_pickT Z Z Z Zb))
         ·
          intro w255 D hS208 hd208
          exact Zs (E' := [(56, (.bool true)), (69, (.bool true))]) ⟨(dpE hd208 7 Z Z), (dpE hd208 20 Z Z), trivial⟩ (Zp Z (ow_pickT Z Z Z Zb))
         ·
          intro w256 D hS209 hd209
          exact Zs (E' := [(70, (.bool true))]) ⟨(dpE hd209 21 Z Z), trivial⟩ (Zp Z (Zm Z Z Zb))
         ·
          intro w257 D hS210 hd210
          have hl257 := Le.no (Add g2 (Add g1 M)) hS210
          have ho510 := ho20.no hS210
          refine Zs (E' := [(71, (.bool true)), (5, (.pointer (some ⟨g1, 0, none⟩)))]) ⟨(dpE hd210 22 Z Z), Z, trivial⟩ (dg_on Z Z Z Z (ow_loadOwnA Z Z Z ho510 (Tryd.isAgg48 _) (Tryd.sizeOf48 _) Z ?_))
          have hw60 : VRep RBox w257 (Add g2 (Add g1 M)) ({ Sides := x1.1.Sides } : Box) (.agg #[(.slice A1 x1.1.Sides.length c1)]) := shut_Box (VRep.mono (lz56.trans hl257) hw1)
          exact ⟨BX.refl _ _, hw60⟩
         ·
          intro w258 D hS211 hd211
          have hl258 := Le.no (Add g2 (Add g1 M)) hS211
          have ho512 := ho20.no hS211
          refine Zs (E' := [(71, (.bool true)), (5, (.pointer (some ⟨g1, 0, none⟩)))]) ⟨(dpE hd211 22 Z Z), Z, trivial⟩ (dg_on Z Z Z Z (ow_loadOwnA Z Z Z ho512 (Tryd.isAgg48 _) (Tryd.sizeOf48 _) Z ?_))
          have hw61 : VRep RBox w258 (Add g2 (Add g1 M)) ({ Sides := x1.1.Sides } : Box) (.agg #[(.slice A1 x1.1.Sides.length c1)]) := shut_Box (VRep.mono (lz56.trans hl258) hw1)
          exact ⟨BX.refl _ _, hw61⟩
         ·
          intro w259 D hS212 hd212
          have hl259 := Le.no (Add g2 (Add g1 M)) hS212
          have hC259 := hC12.no hS212
          have d548 : PV RBox (Add g2 (Add g1 M)) ({ Sides := x1.1.Sides } : Box) (D 23) w259 := dpA hd212 23 Z
          have d549 : PV RBox (Add g2 (Add g1 M)) ({ Sides := x1.1.Sides } : Box) (D 24) w259 := dpA hd212 24 Z
          generalize hq68 : (D 23) = v107 at d548
          generalize hq69 : (D 24) = v108 at d549
          refine Zs (E' := [(72, v107), (73, v108), (71, (.bool true))]) ⟨(congrArg some hq68), (congrArg some hq69), (dpE hd212 22 Z Z), trivial⟩ (dg_on Z Z Z Z (Zk Z Z Tryd.call69 (w_impl_BoxWithin (hG.mono (lz55.trans hl259)) hC259.old d548 d549 hx16) fun v109 w260 hv109 => ?_))
          obtain ⟨hv109, hb48⟩ := hv109
          obtain rfl := vbool_eq hv109
          exact ⟨hb48, Z⟩
         ·
          intro w261 D hS213 hd213
          exact Zs (E' := [(71, (.bool true)), (74, (.bool false))]) ⟨(dpE hd213 22 Z Z), (dpE hd213 25 Z Z), trivial⟩ (Zp Z (ow_pickT Z Z Z Zb))
         ·
          intro w262 D hS214 hd214
          exact Zs (E' := [(75, (.bool false))]) ⟨(dpE hd214 26 Z Z), trivial⟩ (Zp Z (Zm Z Z Zb))
         ·
          intro w263 D hS215 hd215
          exact Zs (E' := [(76, (.bool false)), (5, (.pointer (some ⟨g1, 0, none⟩)))]) ⟨(dpE hd215 27 Z Z), Z, trivial⟩ (dg_off Z Z Z Z Zb)
         ·
          intro w264 D hS216 hd216
          exact Zs (E' := [(76, (.bool false))]) ⟨(dpE hd216 27 Z Z), trivial⟩ (dg_off Z Z Z Z Zb)
         ·
          intro w265 D hS217 hd217
          have hC265 := hC12.no hS217
          refine lw_sub (E' := [(76, (.bool false)), (77, undef), (78, undef), (4, (.bool false)), (5, (.pointer (some ⟨g1, 0, none⟩))), (6, (.pointer (some ⟨g2, 0, none⟩))), (7, (.bool false)), (8, (.pointer (some p2)))]) ⟨(dpE hd217 27 Z Z), (dpE hd217 28 Z Z), (dpE hd217 29 Z Z), Z, Z, Z, Z, Z, trivial⟩ (lw_off Z Z Z Z Z Z (Zo Z Z Z (ow_pickF Z Z Z (Zo Z Z Z (Za Z Z (Zn (Ze (Zy ?_))))))))
          obtain rfl := sj h
          exact ew_ret (res1 Z (.tmp Z)) ⟨_, Z, ((vbool _)), hC265.bx⟩
      ·
       have lz63 := ((lz6.trans hl11).trans hl12)
       have lz64 := (((lz5.trans hl10).trans hl11).trans hl12)
       refine cw_sub (E' := [(4, (.bool false)), (5, (.pointer (some ⟨g1, 0, none⟩))), (6, (.pointer (some ⟨g2, 0, none⟩))), (7, (.bool x2)), (8, (.pointer (some p2)))]) ⟨Z, Z, Z, Z, Z, trivial⟩ (cw_drawQ 30 [PEq (.bool x2), PV RBox (Add g2 (Add g1 M)) ({ Sides := x1.1.Sides } : Box), PV RBox (Add g2 (Add g1 M)) ({ Sides := x1.2.Sides } : Box), PV (RSlice RBox) (Add g2 (Add g1 M)) x7, PEq (.int .i64 (x7.length : Int)), PEq (.bool ((x7.length : Int) == 0)), PEq (.bool false), PEq (.bool false), PEq undef, PEq undef, PEq undef, PEq undef, PEq undef, PEq undef, PEq undef, PEq undef, PEq undef, PEq undef, PEq undef, PEq undef, PEq undef, PEq (.bool false), PEq (.bool false), PEq undef, PEq undef, PEq undef, PEq (.bool false), PEq (.bool false), PEq undef, PEq undef] (by kernel_rfl) Z (by kernel_rfl) ⟨Zq, PV.mono _ _ _, PV.mono _ _ _, PV.mono _ _ _, Zq, Zq, Zq, Zq, Zq, Zq, Zq, Zq, Zq, Zq, Zq, Zq, Zq, Zq, Zq, Zq, Zq, Zq, Zq, Zq, Zq, Zq, Zq, Zq, Zq, Zq, trivial⟩ ⟨?_, ?_, ?_, ?_, ?_, ?_, ?_, ?_, ?_, ?_, ?_, ?_, ?_, ?_, ?_, ?_, ?_, ?_, ?_, ?_, ?_, ?_, ?_, ?_, ?_, ?_, ?_, ?_, ?_, ?_, trivial⟩ ?_)
       ·
        intro w266 D hS218 hd218
        exact Zs (E' := [(7, (.bool x2))]) ⟨Z, trivial⟩ (Zp Z (Zm Z Z Zb))
       ·
        intro w267 D hS219 hd219
        have hl267 := Le.no (Add g2 (Add g1 M)) hS219
        have ho530 := ho20.no hS219
        refine Zs (E' := [(5, (.pointer (some ⟨g1, 0, none⟩)))]) ⟨Z, trivial⟩ (Zp Z (ow_loadOwnA Z Z Z ho530 (Tryd.isAgg48 _) (Tryd.sizeOf48 _) Z ?_))
        have hw62 : VRep RBox w267 (Add g2 (Add g1 M)) ({ Sides := x1.1.Sides } : Box) (.agg #[(.slice A1 x1.1.Sides.length c1)]) := shut_Box (VRep.mono (lz64.trans hl267) hw1)
        exact ⟨BX.refl _ _, hw62⟩
       ·
        intro w268 D hS220 hd220
        have hl268 := Le.no (Add g2 (Add g1 M)) hS220
        have ho533 := ho21.no hS220
        refine Zs (E' := [(6, (.pointer (some ⟨g2, 0, none⟩)))]) ⟨Z, trivial⟩ (Zp Z (ow_loadOwnA Z Z Z ho533 (Tryd.isAgg48 _) (Tryd.sizeOf48 _) Z ?_))
        have hw63 : VRep RBox w268 (Add g2 (Add g1 M)) ({ Sides := x1.2.Sides } : Box) (.agg #[(.slice A2 x1.2.Sides.length c2)]) := shut_Box (VRep.mono (lz64.trans hl268) hw2)
        exact ⟨BX.refl _ _, hw63⟩
       ·
        intro w269 D hS221 hd221
        have hl269 := Le.no (Add g2 (Add g1 M)) hS221
        have hC269 := hC12.no hS221
        have d589 : PV RBox (Add g2 (Add g1 M)) ({ Sides := x1.1.Sides } : Box) (D 1) w269 := dpA hd221 1 Z
        have d590 : PV RBox (Add g2 (Add g1 M)) ({ Sides := x1.2.Sides } : Box) (D 2) w269 := dpA hd221 2 Z
        generalize hq70 : (D 1) = v110 at d589
        generalize hq71 : (D 2) = v111 at d590
        refine Zs (E' := [(50, v110), (51, v111)]) ⟨(congrArg some hq70), (congrArg some hq71), trivial⟩ (Zp Z (Zk Z Z Tryd.call63 (w_impl_BoxCut (hG.mono (lz63.trans hl269)) hC269.old d589 d590 hx7) fun v112 w270 hv112 => ?_))
        obtain ⟨hv112, hb49⟩ := hv112
        exact ⟨hb49, hv112⟩
       ·
        intro w271 D hS222 hd222
        have d591 : PV (RSlice RBox) (Add g2 (Add g1 M)) x7 (D 3) w271 := dpA hd222 3 Z
        generalize hq72 : (D 3) = v113 at d591
        exact Zs (E' := [(52, v113)]) ⟨(congrArg some hq72), trivial⟩ (Zp Z (ow_len Z Z d591 Tryd.underlying64 Z Zb))
       ·
        intro w272 D hS223 hd223
        exact Zs (E' := [(53, (.int .i64 (x7.length : Int)))]) ⟨(dpE hd223 4 Z Z), trivial⟩ (Zp Z (ow_eqlI Z Z Z fun bb27 hbb27 => ⟨BX.refl _ _, (congrArg Value.bool hbb27)⟩))
       ·
        intro w273 D hS224 hd224
        have d593 : PEq (.bool x2) (D 0) w273 := dpA hd224 0 Z
        have d594 : PEq (.bool ((x7.length : Int) == 0)) (D 5) w273 := dpA hd224 5 Z
        obtain ⟨bb28, hq73, hq74⟩ : ∃ b, b = x2 ∧ (D 0) = .bool b := ⟨_, rfl, d593⟩
        obtain ⟨bb29, hq75, hq76⟩ : ∃ b, b = ((x7.length : Int) == 0) ∧ (D 5) = .bool b := ⟨_, rfl, d594⟩
        refine Zs (E' := [(49, (.bool bb28)), (54, (.bool bb29))]) ⟨(congrArg some hq74), (congrArg some hq76), trivial⟩ (Zp Z (ow_eqlB Z Z Z Tryd.underlying4 fun bb30 hbb30 => ?_))
        have hbb30' : bb30 = (x2 == ((x7.length : Int) == 0)) := hbb30.trans (by rw [hq73, hq75])
        obtain rfl := hbb30'.trans hc6
        exact Zb
       ·
        intro w274 D hS225 hd225
        exact Zs (E' := [(55, (.bool false))]) ⟨(dpE hd225 6 Z Z), trivial⟩ (Zp Z (Zm Z Z Zb))
       ·
        intro w275 D hS226 hd226
        exact Zs (E' := [(56, (.bool false)), (7, (.bool x2))]) ⟨(dpE hd226 7 Z Z), Z, trivial⟩ (dg_off Z Z Z Z Zb)
       ·
        intro w276 D hS227 hd227
        exact Zs (E' := [(57, undef), (56, (.bool false))]) ⟨(dpE hd227 8 Z Z), (dpE hd227 7 Z Z), trivial⟩ (dg_off Z Z Z Z Zb)
       ·
        intro w277 D hS228 hd228
        exact Zs (E' := [(58, undef), (56, (.bool false))]) ⟨(dpE hd228 9 Z Z), (dpE hd228 7 Z Z), trivial⟩ (dg_off Z Z Z Z Zb)
       ·
        intro w278 D hS229 hd229
        exact Zs (E' := [(59, undef), (5, (.pointer (some ⟨g1, 0, none⟩)))]) ⟨(dpE hd229 10 Z Z), Z, trivial⟩ (dg_off' Z Z Z Z Zb)
       ·
        intro w279 D hS230 hd230
        exact Zs (E' := [(59, undef), (8, (.pointer (some p2)))]) ⟨(dpE hd230 10 Z Z), Z, trivial⟩ (dg_off' Z Z Z Z Zb)
       ·
        intro w280 D hS231 hd231
        exact Zs (E' := [(60, undef), (61, undef), (59, undef)]) ⟨(dpE hd231 11 Z Z), (dpE hd231 12 Z Z), (dpE hd231 10 Z Z), trivial⟩ (dg_off' Z Z Z Z Zb)
       ·
        intro w281 D hS232 hd232
        exact Zs (E' := [(62, undef), (59, undef)]) ⟨(dpE hd232 13 Z Z), (dpE hd232 10 Z Z), trivial⟩ (dg_off' Z Z Z Z Zb)
       ·
        intro w282 D hS233 hd233
        exact Zs (E' := [(59, undef), (63, undef), (56, (.bool false))]) ⟨(dpE hd233 10 Z Z), (dpE hd233 14 Z Z), (dpE hd233 7 Z Z), trivial⟩ (dg_off Z Z Z Z Zb)
       ·
        intro w283 D hS234 hd234
        exact Zs (E' := [(64, undef), (56, (.bool false))]) ⟨(dpE hd234 15 Z Z), (dpE hd234 7 Z Z), trivial⟩ (dg_off Z Z Z Z Zb)
       ·
        intro w284 D hS235 hd235
        exact Zs (E' := [(65, undef), (6, (.pointer (some ⟨g2, 0, none⟩)))]) ⟨(dpE hd235 16 Z Z), Z, trivial⟩ (dg_off' Z Z Z Z Zb)
       ·
        intro w285 D hS236 hd236
        exact Zs (E' := [(65, undef), (8, (.pointer (some p2)))]) ⟨(dpE hd236 16 Z Z), Z, trivial⟩ (dg_off' Z Z Z Z Zb)
       ·
        intro w286 D hS237 hd237
        exact Zs (E' := [(66, undef), (67, undef), (65, undef)]) ⟨(dpE hd237 17 Z Z), (dpE hd237 18 Z Z), (dpE hd237 16 Z Z), trivial⟩ (dg_off' Z Z Z Z Zb)
       ·
        intro w287 D hS238 hd238
        exact Zs (E' := [(65, undef), (68, undef), (56, (.bool false))]) ⟨(dpE hd238 16 Z Z), (dpE hd238 19 Z Z), (dpE hd238 7 Z Z), trivial⟩ (dg_off Z Z Z Z Zb)
       ·
        intro w288 D hS239 hd239
        exact Zs (E' := [(56, (.bool false)), (69, undef)]) ⟨(dpE hd239 7 Z Z), (dpE hd239 20 Z Z), trivial⟩ (Zp Z (ow_pickF Z Z Z Zb))
       ·
        intro w289 D hS240 hd240
        exact Zs (E' := [(70, (.bool false))]) ⟨(dpE hd240 21 Z Z), trivial⟩ (Zp Z (Zm Z Z Zb))
       ·
        intro w290 D hS241 hd241
        exact Zs (E' := [(71, (.bool false)), (5, (.pointer (some ⟨g1, 0, none⟩)))]) ⟨(dpE hd241 22 Z Z), Z, trivial⟩ (dg_off Z Z Z Z Zb)
       ·
        intro w291 D hS242 hd242
        exact Zs (E' := [(71, (.bool false)), (5, (.pointer (some ⟨g1, 0, none⟩)))]) ⟨(dpE hd242 22 Z Z), Z, trivial⟩ (dg_off Z Z Z Z Zb)
       ·
        intro w292 D hS243 hd243
        exact Zs (E' := [(72, undef), (73, undef), (71, (.bool false))]) ⟨(dpE hd243 23 Z Z), (dpE hd243 24 Z Z), (dpE hd243 22 Z Z), trivial⟩ (dg_off Z Z Z Z Zb)
       ·
        intro w293 D hS244 hd244
        exact Zs (E' := [(71, (.bool false)), (74, undef)]) ⟨(dpE hd244 22 Z Z), (dpE hd244 25 Z Z), trivial⟩ (Zp Z (ow_pickF Z Z Z Zb))
       ·
        intro w294 D hS245 hd245
        exact Zs (E' := [(75, (.bool false))]) ⟨(dpE hd245 26 Z Z), trivial⟩ (Zp Z (Zm Z Z Zb))
       ·
        intro w295 D hS246 hd246
        exact Zs (E' := [(76, (.bool false)), (5, (.pointer (some ⟨g1, 0, none⟩)))]) ⟨(dpE hd246 27 Z Z), Z, trivial⟩ (dg_off Z Z Z Z Zb)
       ·
        intro w296 D hS247 hd247
        exact Zs (E' := [(76, (.bool false))]) ⟨(dpE hd247 27 Z Z), trivial⟩ (dg_off Z Z Z Z Zb)
       ·
        intro w297 D hS248 hd248
        have hC297 := hC12.no hS248
        refine lw_sub (E' := [(76, (.bool false)), (77, undef), (78, undef), (4, (.bool false)), (5, (.pointer (some ⟨g1, 0, none⟩))), (6, (.pointer (some ⟨g2, 0, none⟩))), (7, (.bool x2)), (8, (.pointer (some p2)))]) ⟨(dpE hd248 27 Z Z), (dpE hd248 28 Z Z), (dpE hd248 29 Z Z), Z, Z, Z, Z, Z, trivial⟩ (lw_off Z Z Z Z Z Z (Zo Z Z Z (ow_pickF Z Z Z (Zo Z Z Z (Za Z Z (Zn (Ze (Zy ?_))))))))
        obtain rfl := sj h
        exact ew_ret (res1 Z (.tmp Z)) ⟨_, Z, ((vbool _)), hC297.bx⟩
     ·
      subst hc5
      refine Zt Z (cw_seq (Zr (Zo Z Z Z (Zm Z Z (Zo Z Z Z (ow_not Z Z (Zo Z Z Z (Zm Z Z ?_))))))))
      replace h := Zc h
      rcases h with ⟨hc13, h⟩ | ⟨hc13, h⟩
      ·
       subst hc13
       refine lw_off Z Z Z Z Z Z (Zo Z Z Z (ow_pickF Z Z Z (Zo Z Z Z (Za Z Z (Zn (Ze (Zy (Zh ?_))))))))
       obtain rfl := sj h
       exact ew_ret (res1 Z (.tmp Z)) ⟨_, Z, ((vbool _)), hC9.bx⟩
      ·
       subst hc13
       replace h := bind_some h
       obtain ⟨x19, hx19, h⟩ := h
       have lz71 := ((lz4.trans hl8).trans hl9)
       refine lw_on Z Z Z Z Z Z (Zk Z Z Tryd.call19 (w_laws_alive (hG.mono lz71) hC9.old hx19) fun v114 w298 hv114 => ?_)
       obtain ⟨hv114, hb50⟩ := hv114
       have hC298 := hC9.no hb50
       obtain rfl := vbool_eq hv114
       refine Zo Z Z Z (ow_pickT Z Z Z (Zo Z Z Z (Za Z Z (Zn (Ze (Zy (Zh ?_)))))))
       obtain rfl := sj h
       exact ew_ret (res1 Z (.tmp Z)) ⟨_, Z, ((vbool _)), hC298.bx⟩
    ·
     subst hc4
     refine lw_off Z Z Z Z Z Z (lw_off Z Z Z Z Z Z (lw_off Z Z Z Z Z Z (Zo Z Z Z (ow_pickT Z Z Z (Zn (Ze (Zt Z (cw_seq (Zr (Zo Z Z Z (Zm Z Z (Zo Z Z Z (ow_not Z Z (Zo Z Z Z (Zm Z Z ?_)))))))))))))))
     replace h := Zc h
     rcases h with ⟨hc14, h⟩ | ⟨hc14, h⟩
     ·
      subst hc14
      refine lw_off Z Z Z Z Z Z (Zo Z Z Z (ow_pickF Z Z Z (Zo Z Z Z (Za Z Z (Zn (Ze (Zy (Zh ?_))))))))
      obtain rfl := sj h
      exact ew_ret (res1 Z (.tmp Z)) ⟨_, Z, ((vbool _)), hC8.bx⟩
     ·
      subst hc14
      replace h := bind_some h
      obtain ⟨x20, hx20, h⟩ := h
      refine lw_on Z Z Z Z Z Z (Zk Z Z Tryd.call19 (w_laws_alive (hG.mono (lz4.trans hl8)) hC8.old hx20) fun v115 w299 hv115 => ?_)
      obtain ⟨hv115, hb51⟩ := hv115
      have hC299 := hC8.no hb51
      obtain rfl := vbool_eq hv115
      refine Zo Z Z Z (ow_pickT Z Z Z (Zo Z Z Z (Za Z Z (Zn (Ze (Zy (Zh ?_)))))))
      obtain rfl := sj h
      exact ew_ret (res1 Z (.tmp Z)) ⟨_, Z, ((vbool _)), hC299.bx⟩


end Go.PF
