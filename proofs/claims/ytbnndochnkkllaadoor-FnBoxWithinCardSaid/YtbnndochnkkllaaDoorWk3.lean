/- The walks; no condition. -/
import Derived.Test.YtbnndochnkkllaaDoorProg
import Derived.Test.YtbnndochnkkllaaDoorWk2
import Derived.Test.YtbnndochnkkllaaDoorPFSeq
set_option maxRecDepth 100000
set_option maxHeartbeats 4000000
namespace Go.PF
open Go Go.RowKit Go.Proofs

theorem w_spec_SpansValid {w : World} {M : Nat → Prop} (hG : ARep (RArr 4 RShape) w M shapes ⟨0, 0, none⟩) (hO : ∀ b, M b → b < w.heap.size) {v0p : Value} {a_list : List Span} (h0 : VRep (RSlice RSpan) w M a_list v0p) {a_top : Int} {r : Bool} (h : F.spec_SpansValid a_list a_top = some r) :
  Calls Tryd.prog 133 [v0p, (.int .i64 a_top)].toArray w fun e w' => ∃ v, e = .returned v ∧ VRep RBool w' M r v ∧ BX No w w' := by
 have hC : Cx No w M w M := Cx.start hO (fun _ e => e.elim)
 refine walk (N := 60) Tryd.func133 Z Tryd.ntmps133 Z (cw_seq (Zr (Zo Z Z Z (Za Z Z (Zn (Ze (cw_seq (cw_seq (Zr (Zo Z Z Z (Za Z Z (Zn (Ze ?_)))))))))))))
 replace h := bind_some h
 obtain ⟨lr1, hlr1, h⟩ := h
 refine cw_for hlr1 (fun s a w' => ∃ (M' : Nat → Prop), Fits 60 [(0, v0p), (1, (.int .i64 a_top)), (5, (.int .i64 s))] a ∧ Le w M w' M' ∧ Cx No w M w' M') ?_ ?_ ?_
 ·
  intro a ha
  exact ⟨M, ha.sub ⟨Z, Z, Z, trivial⟩, Le.refl _ _, hC⟩
 ·
  rintro k1 a w1 sr1 ⟨M1, hF1, hl1, hC1⟩ hb1 hR1
  refine cw_at (E := [(0, v0p), (1, (.int .i64 a_top)), (5, (.int .i64 k1))]) hF1 (cw_seq (cw_seq (Zr (Zo Z Z Z (Zm Z Z (Zo Z Z Z (Zm Z Z (Zo Z Z Z (ow_len Z Z (VRep.mono hl1 h0) Tryd.underlying121 Z (Zo Z Z Z (ow_lss Z Z Z fun bb1 hbb1 => Zn (Ze ?_))))))))))))
  replace hb1 := Zc hb1
  rcases hb1 with ⟨hc1, hb1⟩ | ⟨hc1, hb1⟩
  ·
   obtain rfl := hbb1.trans hc1
   refine Zt Z (cw_skip (Ze (cw_seq (cw_block (cw_seq ?_)))))
   replace hb1 := bind_some hb1
   obtain ⟨x1, hx1, hb1⟩ := hb1
   replace hb1 := bind_some hb1
   obtain ⟨x2, hx2, hb1⟩ := hb1
   replace hb1 := Zc hb1
   rcases hb1 with ⟨hc2, hb1⟩ | ⟨hc2, hb1⟩
   ·
    subst hc2
    replace hb1 := bind_some hb1
    obtain ⟨x3, hx3, hb1⟩ := hb1
    replace hb1 := Zc hb1
    rcases hb1 with ⟨hc3, hb1⟩ | ⟨hc3, hb1⟩
    ·
     subst hc3
     replace hb1 := Zc hb1
     rcases hb1 with ⟨hc4, hb1⟩ | ⟨hc4, hb1⟩
     ·
      replace hb1 := bind_some hb1
      obtain ⟨x4, hx4, hb1⟩ := hb1
      refine cw_sub (E' := [(0, v0p), (1, (.int .i64 a_top)), (5, (.int .i64 k1))]) ⟨Z, Z, Z, trivial⟩ (cw_drawQ 38 [PV (RSlice RSpan) M1 a_list, PEq (.int .i64 k1), PA RSpan M1 x1, PA RInt M1 x1.Lo, PEq (.int .i64 x1.Lo), PV (RSlice RSpan) M1 a_list, PEq (.int .i64 k1), PA RSpan M1 x1, PA RInt M1 x1.Hi, PEq (.int .i64 x1.Hi), PEq (.bool true), PEq (.bool false), PEq (.bool false), PV (RSlice RSpan) M1 a_list, PEq (.int .i64 k1), PA RSpan M1 x1, PA RInt M1 x1.Hi, PEq (.int .i64 x1.Hi), PEq (.int .i64 a_top), PEq (.bool true), PEq (.bool false), PEq (.bool false), PEq (.bool false), PEq (.int .i64 k1), PEq (.bool true), PEq (.bool true), PV (RSlice RSpan) M1 a_list, PEq (.int .i64 k1), PA RSpan M1 x1, PA RInt M1 x1.Lo, PEq (.int .i64 x1.Lo), PV (RSlice RSpan) M1 a_list, PEq (.int .i64 k1), PEq (.int .i64 (W (k1 - 1))), PA RSpan M1 x4, PA RInt M1 x4.Hi, PEq (.int .i64 x4.Hi), PEq (.int .i64 (W (x4.Hi + 2)))] (by kernel_rfl) Z (by kernel_rfl) ⟨PV.mono _ _ _, Zq, PA.mono _ _ _, PA.mono _ _ _, Zq, PV.mono _ _ _, Zq, PA.mono _ _ _, PA.mono _ _ _, Zq, Zq, Zq, Zq, PV.mono _ _ _, Zq, PA.mono _ _ _, PA.mono _ _ _, Zq, Zq, Zq, Zq, Zq, Zq, Zq, Zq, Zq, PV.mono _ _ _, Zq, PA.mono _ _ _, PA.mono _ _ _, Zq, PV.mono _ _ _, Zq, Zq, PA.mono _ _ _, PA.mono _ _ _, Zq, Zq, trivial⟩ ⟨?_, ?_, ?_, ?_, ?_, ?_, ?_, ?_, ?_, ?_, ?_, ?_, ?_, ?_, ?_, ?_, ?_, ?_, ?_, ?_, ?_, ?_, ?_, ?_, ?_, ?_, ?_, ?_, ?_, ?_, ?_, ?_, ?_, ?_, ?_, ?_, ?_, ?_, trivial⟩ ?_)
      ·
       intro w4 D hS1 hd1
       have hl4 := Le.no M1 hS1
       exact Zs (E' := [(0, v0p)]) ⟨Z, trivial⟩ (Zp Z (Zm Z Z ⟨BX.refl _ _, (VRep.mono (hl1.trans hl4) h0)⟩))
      ·
       intro w5 D hS2 hd2
       exact Zs (E' := [(5, (.int .i64 k1))]) ⟨Z, trivial⟩ (Zp Z (Zm Z Z Zb))
      ·
       intro w6 D hS3 hd3
       have d1 : PV (RSlice RSpan) M1 a_list (D 0) w6 := dpA hd3 0 Z
       generalize hq1 : (D 0) = v9 at d1
       exact Zs (E' := [(12, v9), (13, (.int .i64 k1))]) ⟨(congrArg some hq1), (dpE hd3 1 Z Z), trivial⟩ (Zp Z (Zx (R := RSpan) Z Z Z d1 Tryd.underlying121 (Tryd.sizeOf120 _) hx1 fun p6 hp6 => ⟨BX.refl _ _, ⟨_, Z, hp6⟩⟩))
      ·
       intro w7 D hS4 hd4
       have d3 : PA RSpan M1 x1 (D 2) w7 := dpA hd4 2 Z
       obtain ⟨p7, e1, ha1⟩ := d3
       exact Zs (E' := [(14, (.pointer (some p7)))]) ⟨(congrArg some e1), trivial⟩ (Zp Z (Zf Z Z Tryd.underlying120 Z (Tryd.sizeOf3 _) ⟨BX.refl _ _, ⟨_, Z, (ha1.fld fld_Span_Lo)⟩⟩))
      ·
       intro w8 D hS5 hd5
       have d4 : PA RInt M1 x1.Lo (D 3) w8 := dpA hd5 3 Z
       obtain ⟨p8, e2, ha2⟩ := d4
       refine Zs (E' := [(15, (.pointer (some p8)))]) ⟨(congrArg some e2), trivial⟩ (Zp Z (Zl (R := RInt) Z Z ha2 (Tryd.sizeOf3 _) (Tryd.isAgg3 _) fun v10 hv10 => ?_))
       obtain rfl := Zi hv10
       exact Zb
      ·
       intro w9 D hS6 hd6
       have hl9 := Le.no M1 hS6
       exact Zs (E' := [(0, v0p)]) ⟨Z, trivial⟩ (Zp Z (Zm Z Z ⟨BX.refl _ _, (VRep.mono (hl1.trans hl9) h0)⟩))
      ·
       intro w10 D hS7 hd7
       exact Zs (E' := [(5, (.int .i64 k1))]) ⟨Z, trivial⟩ (Zp Z (Zm Z Z Zb))
      ·
       intro w11 D hS8 hd8
       have d5 : PV (RSlice RSpan) M1 a_list (D 5) w11 := dpA hd8 5 Z
       generalize hq2 : (D 5) = v11 at d5
       exact Zs (E' := [(17, v11), (18, (.int .i64 k1))]) ⟨(congrArg some hq2), (dpE hd8 6 Z Z), trivial⟩ (Zp Z (Zx (R := RSpan) Z Z Z d5 Tryd.underlying121 (Tryd.sizeOf120 _) hx1 fun p9 hp9 => ⟨BX.refl _ _, ⟨_, Z, hp9⟩⟩))
      ·
       intro w12 D hS9 hd9
       have d7 : PA RSpan M1 x1 (D 7) w12 := dpA hd9 7 Z
       obtain ⟨p10, e3, ha3⟩ := d7
       exact Zs (E' := [(19, (.pointer (some p10)))]) ⟨(congrArg some e3), trivial⟩ (Zp Z (Zf Z Z Tryd.underlying120 Z (Tryd.sizeOf3 _) ⟨BX.refl _ _, ⟨_, Z, (ha3.fld fld_Span_Hi)⟩⟩))
      ·
       intro w13 D hS10 hd10
       have d8 : PA RInt M1 x1.Hi (D 8) w13 := dpA hd10 8 Z
       obtain ⟨p11, e4, ha4⟩ := d8
       refine Zs (E' := [(20, (.pointer (some p11)))]) ⟨(congrArg some e4), trivial⟩ (Zp Z (Zl (R := RInt) Z Z ha4 (Tryd.sizeOf3 _) (Tryd.isAgg3 _) fun v12 hv12 => ?_))
       obtain rfl := Zi hv12
       exact Zb
      ·
       intro w14 D hS11 hd11
       have hl14 := Le.no M1 hS11
       have hC14 := hC1.no hS11
       refine Zs (E' := [(16, (.int .i64 x1.Lo)), (21, (.int .i64 x1.Hi))]) ⟨(dpE hd11 4 Z Z), (dpE hd11 9 Z Z), trivial⟩ (Zp Z (Zk Z Z Tryd.call118 (w_spec_l1In (hG.mono (hl1.trans hl14)) hC14.old hx2) fun v13 w15 hv13 => ?_))
       obtain ⟨hv13, hb4⟩ := hv13
       obtain rfl := vbool_eq hv13
       exact ⟨hb4, Z⟩
      ·
       intro w16 D hS12 hd12
       exact Zs (E' := [(22, (.bool true))]) ⟨(dpE hd12 10 Z Z), trivial⟩ (Zp Z (ow_not Z Z Zb))
      ·
       intro w17 D hS13 hd13
       exact Zs (E' := [(23, (.bool false))]) ⟨(dpE hd13 11 Z Z), trivial⟩ (Zp Z (Zm Z Z Zb))
      ·
       intro w18 D hS14 hd14
       have hl18 := Le.no M1 hS14
       exact Zs (E' := [(24, (.bool false)), (0, v0p)]) ⟨(dpE hd14 12 Z Z), Z, trivial⟩ (dg_on Z Z Z Z (Zm Z Z ⟨BX.refl _ _, (VRep.mono (hl1.trans hl18) h0)⟩))
      ·
       intro w19 D hS15 hd15
       exact Zs (E' := [(24, (.bool false)), (5, (.int .i64 k1))]) ⟨(dpE hd15 12 Z Z), Z, trivial⟩ (dg_on Z Z Z Z (Zm Z Z Zb))
      ·
       intro w20 D hS16 hd16
       have d16 : PV (RSlice RSpan) M1 a_list (D 13) w20 := dpA hd16 13 Z
       generalize hq3 : (D 13) = v14 at d16
       exact Zs (E' := [(25, v14), (26, (.int .i64 k1)), (24, (.bool false))]) ⟨(congrArg some hq3), (dpE hd16 14 Z Z), (dpE hd16 12 Z Z), trivial⟩ (dg_on Z Z Z Z (Zx (R := RSpan) Z Z Z d16 Tryd.underlying121 (Tryd.sizeOf120 _) hx1 fun p12 hp12 => ⟨BX.refl _ _, ⟨_, Z, hp12⟩⟩))
      ·
       intro w21 D hS17 hd17
       have d19 : PA RSpan M1 x1 (D 15) w21 := dpA hd17 15 Z
       obtain ⟨p13, e5, ha5⟩ := d19
       exact Zs (E' := [(27, (.pointer (some p13))), (24, (.bool false))]) ⟨(congrArg some e5), (dpE hd17 12 Z Z), trivial⟩ (dg_on Z Z Z Z (Zf Z Z Tryd.underlying120 Z (Tryd.sizeOf3 _) ⟨BX.refl _ _, ⟨_, Z, (ha5.fld fld_Span_Hi)⟩⟩))
      ·
       intro w22 D hS18 hd18
       have d21 : PA RInt M1 x1.Hi (D 16) w22 := dpA hd18 16 Z
       obtain ⟨p14, e6, ha6⟩ := d21
       refine Zs (E' := [(28, (.pointer (some p14))), (24, (.bool false))]) ⟨(congrArg some e6), (dpE hd18 12 Z Z), trivial⟩ (dg_on Z Z Z Z (Zl (R := RInt) Z Z ha6 (Tryd.sizeOf3 _) (Tryd.isAgg3 _) fun v15 hv15 => ?_))
       obtain rfl := Zi hv15
       exact Zb
      ·
       intro w23 D hS19 hd19
       exact Zs (E' := [(24, (.bool false)), (1, (.int .i64 a_top))]) ⟨(dpE hd19 12 Z Z), Z, trivial⟩ (dg_on Z Z Z Z (Zm Z Z Zb))
      ·
       intro w24 D hS20 hd20
       have hl24 := Le.no M1 hS20
       have hC24 := hC1.no hS20
       refine Zs (E' := [(29, (.int .i64 x1.Hi)), (30, (.int .i64 a_top)), (24, (.bool false))]) ⟨(dpE hd20 17 Z Z), (dpE hd20 18 Z Z), (dpE hd20 12 Z Z), trivial⟩ (dg_on Z Z Z Z (Zk Z Z Tryd.call118 (w_spec_l1In (hG.mono (hl1.trans hl24)) hC24.old hx3) fun v16 w25 hv16 => ?_))
       obtain ⟨hv16, hb5⟩ := hv16
       obtain rfl := vbool_eq hv16
       exact ⟨hb5, Z⟩
      ·
       intro w26 D hS21 hd21
       exact Zs (E' := [(31, (.bool true)), (24, (.bool false))]) ⟨(dpE hd21 19 Z Z), (dpE hd21 12 Z Z), trivial⟩ (dg_on Z Z Z Z (ow_not Z Z Zb))
      ·
       intro w27 D hS22 hd22
       exact Zs (E' := [(24, (.bool false)), (32, (.bool false))]) ⟨(dpE hd22 12 Z Z), (dpE hd22 20 Z Z), trivial⟩ (Zp Z (ow_pickF Z Z Z Zb))
      ·
       intro w28 D hS23 hd23
       exact Zs (E' := [(33, (.bool false))]) ⟨(dpE hd23 21 Z Z), trivial⟩ (Zp Z (Zm Z Z Zb))
      ·
       intro w29 D hS24 hd24
       exact Zs (E' := [(34, (.bool false)), (5, (.int .i64 k1))]) ⟨(dpE hd24 22 Z Z), Z, trivial⟩ (dg_on Z Z Z Z (Zm Z Z Zb))
      ·
       intro w30 D hS25 hd25
       refine Zs (E' := [(35, (.int .i64 k1)), (34, (.bool false))]) ⟨(dpE hd25 23 Z Z), (dpE hd25 22 Z Z), trivial⟩ (dg_on Z Z Z Z (ow_gtr Z Z Z fun bb3 hbb3 => ?_))
       obtain rfl := hbb3.trans hc4
       exact Zb
      ·
       intro w31 D hS26 hd26
       exact Zs (E' := [(36, (.bool true)), (34, (.bool false))]) ⟨(dpE hd26 24 Z Z), (dpE hd26 22 Z Z), trivial⟩ (dg_on Z Z Z Z (Zm Z Z Zb))
      ·
       intro w32 D hS27 hd27
       have hl32 := Le.no M1 hS27
       exact Zs (E' := [(37, (.bool true)), (0, v0p)]) ⟨(dpE hd27 25 Z Z), Z, trivial⟩ (dg_on Z Z Z Z (Zm Z Z ⟨BX.refl _ _, (VRep.mono (hl1.trans hl32) h0)⟩))
      ·
       intro w33 D hS28 hd28
       exact Zs (E' := [(37, (.bool true)), (5, (.int .i64 k1))]) ⟨(dpE hd28 25 Z Z), Z, trivial⟩ (dg_on Z Z Z Z (Zm Z Z Zb))
      ·
       intro w34 D hS29 hd29
       have d42 : PV (RSlice RSpan) M1 a_list (D 26) w34 := dpA hd29 26 Z
       generalize hq4 : (D 26) = v17 at d42
       exact Zs (E' := [(38, v17), (39, (.int .i64 k1)), (37, (.bool true))]) ⟨(congrArg some hq4), (dpE hd29 27 Z Z), (dpE hd29 25 Z Z), trivial⟩ (dg_on Z Z Z Z (Zx (R := RSpan) Z Z Z d42 Tryd.underlying121 (Tryd.sizeOf120 _) hx1 fun p15 hp15 => ⟨BX.refl _ _, ⟨_, Z, hp15⟩⟩))
      ·
       intro w35 D hS30 hd30
       have d45 : PA RSpan M1 x1 (D 28) w35 := dpA hd30 28 Z
       obtain ⟨p16, e7, ha7⟩ := d45
       exact Zs (E' := [(40, (.pointer (some p16))), (37, (.bool true))]) ⟨(congrArg some e7), (dpE hd30 25 Z Z), trivial⟩ (dg_on Z Z Z Z (Zf Z Z Tryd.underlying120 Z (Tryd.sizeOf3 _) ⟨BX.refl _ _, ⟨_, Z, (ha7.fld fld_Span_Lo)⟩⟩))
      ·
       intro w36 D hS31 hd31
       have d47 : PA RInt M1 x1.Lo (D 29) w36 := dpA hd31 29 Z
       obtain ⟨p17, e8, ha8⟩ := d47
       refine Zs (E' := [(41, (.pointer (some p17))), (37, (.bool true))]) ⟨(congrArg some e8), (dpE hd31 25 Z Z), trivial⟩ (dg_on Z Z Z Z (Zl (R := RInt) Z Z ha8 (Tryd.sizeOf3 _) (Tryd.isAgg3 _) fun v18 hv18 => ?_))
       obtain rfl := Zi hv18
       exact Zb
      ·
       intro w37 D hS32 hd32
       have hl37 := Le.no M1 hS32
       exact Zs (E' := [(37, (.bool true)), (0, v0p)]) ⟨(dpE hd32 25 Z Z), Z, trivial⟩ (dg_on Z Z Z Z (Zm Z Z ⟨BX.refl _ _, (VRep.mono (hl1.trans hl37) h0)⟩))
      ·
       intro w38 D hS33 hd33
       exact Zs (E' := [(37, (.bool true)), (5, (.int .i64 k1))]) ⟨(dpE hd33 25 Z Z), Z, trivial⟩ (dg_on Z Z Z Z (Zm Z Z Zb))
      ·
       intro w39 D hS34 hd34
       exact Zs (E' := [(44, (.int .i64 k1)), (37, (.bool true))]) ⟨(dpE hd34 32 Z Z), (dpE hd34 25 Z Z), trivial⟩ (dg_on Z Z Z Z (ow_sub Z Z Z Zb))
      ·
       intro w40 D hS35 hd35
       have d53 : PV (RSlice RSpan) M1 a_list (D 31) w40 := dpA hd35 31 Z
       generalize hq5 : (D 31) = v19 at d53
       exact Zs (E' := [(43, v19), (45, (.int .i64 (W (k1 - 1)))), (37, (.bool true))]) ⟨(congrArg some hq5), (dpE hd35 33 Z Z), (dpE hd35 25 Z Z), trivial⟩ (dg_on Z Z Z Z (Zx (R := RSpan) Z Z Z d53 Tryd.underlying121 (Tryd.sizeOf120 _) hx4 fun p18 hp18 => ⟨BX.refl _ _, ⟨_, Z, hp18⟩⟩))
      ·
       intro w41 D hS36 hd36
       have d56 : PA RSpan M1 x4 (D 34) w41 := dpA hd36 34 Z
       obtain ⟨p19, e9, ha9⟩ := d56
       exact Zs (E' := [(46, (.pointer (some p19))), (37, (.bool true))]) ⟨(congrArg some e9), (dpE hd36 25 Z Z), trivial⟩ (dg_on Z Z Z Z (Zf Z Z Tryd.underlying120 Z (Tryd.sizeOf3 _) ⟨BX.refl _ _, ⟨_, Z, (ha9.fld fld_Span_Hi)⟩⟩))
      ·
       intro w42 D hS37 hd37
       have d58 : PA RInt M1 x4.Hi (D 35) w42 := dpA hd37 35 Z
       obtain ⟨p20, e10, ha10⟩ := d58
       refine Zs (E' := [(47, (.pointer (some p20))), (37, (.bool true))]) ⟨(congrArg some e10), (dpE hd37 25 Z Z), trivial⟩ (dg_on Z Z Z Z (Zl (R := RInt) Z Z ha10 (Tryd.sizeOf3 _) (Tryd.isAgg3 _) fun v20 hv20 => ?_))
       obtain rfl := Zi hv20
       exact Zb
      ·
       intro w43 D hS38 hd38
       exact Zs (E' := [(48, (.int .i64 x4.Hi)), (37, (.bool true))]) ⟨(dpE hd38 36 Z Z), (dpE hd38 25 Z Z), trivial⟩ (dg_on Z Z Z Z (ow_add Z Z Z Zb))
      ·
       intro w44 D hS39 hd39
       have hl44 := Le.no M1 hS39
       have hC44 := hC1.no hS39
       refine lw_sub (E' := [(34, (.bool false)), (37, (.bool true)), (42, (.int .i64 x1.Lo)), (49, (.int .i64 (W (x4.Hi + 2)))), (0, v0p), (1, (.int .i64 a_top)), (5, (.int .i64 k1))]) ⟨(dpE hd39 22 Z Z), (dpE hd39 25 Z Z), (dpE hd39 30 Z Z), (dpE hd39 37 Z Z), Z, Z, Z, trivial⟩ (lw_on Z Z Z Z Z Z (ow_lss Z Z Z fun bb4 hbb4 => lw_on Z Z Z Z Z Z (ow_pickT Z Z Z (Zo Z Z Z (ow_pickF Z Z Z (Zn (Ze ?_)))))))
       replace hb1 := Zc hb1
       rcases hb1 with ⟨hc5, hb1⟩ | ⟨hc5, hb1⟩
       ·
        obtain rfl := hbb4.trans hc5
        refine Zt Z (cw_seq (Zr (Zo Z Z Z (Za Z Z (Zn (Ze (Zy (ew_blockR (Zh (Zh (ew_blockR (ew_brkR (Zh ?_)))))))))))))
        have e11 := hR1 _ (sj hb1).symm
        subst e11
        obtain rfl := sj h
        exact ew_ret (res1 Z (.tmp Z)) ⟨_, Z, ((vbool _)), hC44.bx⟩
       ·
        obtain rfl := hbb4.trans hc5
        exact Zu Z (cw_skip (ew_blockN (Ze (Zr (Zo Z Z Z (Zm Z Z (Zo Z Z Z (ow_add Z Z Z (Zo Z Z Z (Za Z Z (Zn (ew_nxt (W (k1 + 1)) hb1 fun a ha => ⟨M1, (ha.sub ⟨Z, Z, Z, trivial⟩), (hl1.trans hl44), hC44⟩))))))))))))
     ·
      refine cw_sub (E' := [(0, v0p), (1, (.int .i64 a_top)), (5, (.int .i64 k1))]) ⟨Z, Z, Z, trivial⟩ (cw_drawQ 38 [PV (RSlice RSpan) M1 a_list, PEq (.int .i64 k1), PA RSpan M1 x1, PA RInt M1 x1.Lo, PEq (.int .i64 x1.Lo), PV (RSlice RSpan) M1 a_list, PEq (.int .i64 k1), PA RSpan M1 x1, PA RInt M1 x1.Hi, PEq (.int .i64 x1.Hi), PEq (.bool true), PEq (.bool false), PEq (.bool false), PV (RSlice RSpan) M1 a_list, PEq (.int .i64 k1), PA RSpan M1 x1, PA RInt M1 x1.Hi, PEq (.int .i64 x1.Hi), PEq (.int .i64 a_top), PEq (.bool true), PEq (.bool false), PEq (.bool false), PEq (.bool false), PEq (.int .i64 k1), PEq (.bool false), PEq (.bool false), PEq undef, PEq undef, PEq undef, PEq undef, PEq undef, PEq undef, PEq undef, PEq undef, PEq undef, PEq undef, PEq undef, PEq undef] (by kernel_rfl) Z (by kernel_rfl) ⟨PV.mono _ _ _, Zq, PA.mono _ _ _, PA.mono _ _ _, Zq, PV.mono _ _ _, Zq, PA.mono _ _ _, PA.mono _ _ _, Zq, Zq, Zq, Zq, PV.mono _ _ _, Zq, PA.mono _ _ _, PA.mono _ _ _, Zq, Zq, Zq, Zq, Zq, Zq, Zq, Zq, Zq, Zq, Zq, Zq, Zq, Zq, Zq, Zq, Zq, Zq, Zq, Zq, Zq, trivial⟩ ⟨?_, ?_, ?_, ?_, ?_, ?_, ?_, ?_, ?_, ?_, ?_, ?_, ?_, ?_, ?_, ?_, ?_, ?_, ?_, ?_, ?_, ?_, ?_, ?_, ?_, ?_, ?_, ?_, ?_, ?_, ?_, ?_, ?_, ?_, ?_, ?_, ?_, ?_, trivial⟩ ?_)
      ·
       intro w45 D hS40 hd40
       have hl45 := Le.no M1 hS40
       exact Zs (E' := [(0, v0p)]) ⟨Z, trivial⟩ (Zp Z (Zm Z Z ⟨BX.refl _ _, (VRep.mono (hl1.trans hl45) h0)⟩))
      ·
       intro w46 D hS41 hd41
       exact Zs (E' := [(5, (.int .i64 k1))]) ⟨Z, trivial⟩ (Zp Z (Zm Z Z Zb))
      ·
       intro w47 D hS42 hd42
       have d100 : PV (RSlice RSpan) M1 a_list (D 0) w47 := dpA hd42 0 Z
       generalize hq6 : (D 0) = v21 at d100
       exact Zs (E' := [(12, v21), (13, (.int .i64 k1))]) ⟨(congrArg some hq6), (dpE hd42 1 Z Z), trivial⟩ (Zp Z (Zx (R := RSpan) Z Z Z d100 Tryd.underlying121 (Tryd.sizeOf120 _) hx1 fun p21 hp21 => ⟨BX.refl _ _, ⟨_, Z, hp21⟩⟩))
      ·
       intro w48 D hS43 hd43
       have d102 : PA RSpan M1 x1 (D 2) w48 := dpA hd43 2 Z
       obtain ⟨p22, e12, ha11⟩ := d102
       exact Zs (E' := [(14, (.pointer (some p22)))]) ⟨(congrArg some e12), trivial⟩ (Zp Z (Zf Z Z Tryd.underlying120 Z (Tryd.sizeOf3 _) ⟨BX.refl _ _, ⟨_, Z, (ha11.fld fld_Span_Lo)⟩⟩))
      ·
       intro w49 D hS44 hd44
       have d103 : PA RInt M1 x1.Lo (D 3) w49 := dpA hd44 3 Z
       obtain ⟨p23, e13, ha12⟩ := d103
       refine Zs (E' := [(15, (.pointer (some p23)))]) ⟨(congrArg some e13), trivial⟩ (Zp Z (Zl (R := RInt) Z Z ha12 (Tryd.sizeOf3 _) (Tryd.isAgg3 _) fun v22 hv22 => ?_))
       obtain rfl := Zi hv22
       exact Zb
      ·
       intro w50 D hS45 hd45
       have hl50 := Le.no M1 hS45
       exact Zs (E' := [(0, v0p)]) ⟨Z, trivial⟩ (Zp Z (Zm Z Z ⟨BX.refl _ _, (VRep.mono (hl1.trans hl50) h0)⟩))
      ·
       intro w51 D hS46 hd46
       exact Zs (E' := [(5, (.int .i64 k1))]) ⟨Z, trivial⟩ (Zp Z (Zm Z Z Zb))
      ·
       intro w52 D hS47 hd47
       have d104 : PV (RSlice RSpan) M1 a_list (D 5) w52 := dpA hd47 5 Z
       generalize hq7 : (D 5) = v23 at d104
       exact Zs (E' := [(17, v23), (18, (.int .i64 k1))]) ⟨(congrArg some hq7), (dpE hd47 6 Z Z), trivial⟩ (Zp Z (Zx (R := RSpan) Z Z Z d104 Tryd.underlying121 (Tryd.sizeOf120 _) hx1 fun p24 hp24 => ⟨BX.refl _ _, ⟨_, Z, hp24⟩⟩))
      ·
       intro w53 D hS48 hd48
       have d106 : PA RSpan M1 x1 (D 7) w53 := dpA hd48 7 Z
       obtain ⟨p25, e14, ha13⟩ := d106
       exact Zs (E' := [(19, (.pointer (some p25)))]) ⟨(congrArg some e14), trivial⟩ (Zp Z (Zf Z Z Tryd.underlying120 Z (Tryd.sizeOf3 _) ⟨BX.refl _ _, ⟨_, Z, (ha13.fld fld_Span_Hi)⟩⟩))
      ·
       intro w54 D hS49 hd49
       have d107 : PA RInt M1 x1.Hi (D 8) w54 := dpA hd49 8 Z
       obtain ⟨p26, e15, ha14⟩ := d107
       refine Zs (E' := [(20, (.pointer (some p26)))]) ⟨(congrArg some e15), trivial⟩ (Zp Z (Zl (R := RInt) Z Z ha14 (Tryd.sizeOf3 _) (Tryd.isAgg3 _) fun v24 hv24 => ?_))
       obtain rfl := Zi hv24
       exact Zb
      ·
       intro w55 D hS50 hd50
       have hl55 := Le.no M1 hS50
       have hC55 := hC1.no hS50
       refine Zs (E' := [(16, (.int .i64 x1.Lo)), (21, (.int .i64 x1.Hi))]) ⟨(dpE hd50 4 Z Z), (dpE hd50 9 Z Z), trivial⟩ (Zp Z (Zk Z Z Tryd.call118 (w_spec_l1In (hG.mono (hl1.trans hl55)) hC55.old hx2) fun v25 w56 hv25 => ?_))
       obtain ⟨hv25, hb6⟩ := hv25
       obtain rfl := vbool_eq hv25
       exact ⟨hb6, Z⟩
      ·
       intro w57 D hS51 hd51
       exact Zs (E' := [(22, (.bool true))]) ⟨(dpE hd51 10 Z Z), trivial⟩ (Zp Z (ow_not Z Z Zb))
      ·
       intro w58 D hS52 hd52
       exact Zs (E' := [(23, (.bool false))]) ⟨(dpE hd52 11 Z Z), trivial⟩ (Zp Z (Zm Z Z Zb))
      ·
       intro w59 D hS53 hd53
       have hl59 := Le.no M1 hS53
       exact Zs (E' := [(24, (.bool false)), (0, v0p)]) ⟨(dpE hd53 12 Z Z), Z, trivial⟩ (dg_on Z Z Z Z (Zm Z Z ⟨BX.refl _ _, (VRep.mono (hl1.trans hl59) h0)⟩))
      ·
       intro w60 D hS54 hd54
       exact Zs (E' := [(24, (.bool false)), (5, (.int .i64 k1))]) ⟨(dpE hd54 12 Z Z), Z, trivial⟩ (dg_on Z Z Z Z (Zm Z Z Zb))
      ·
       intro w61 D hS55 hd55
       have d115 : PV (RSlice RSpan) M1 a_list (D 13) w61 := dpA hd55 13 Z
       generalize hq8 : (D 13) = v26 at d115
       exact Zs (E' := [(25, v26), (26, (.int .i64 k1)), (24, (.bool false))]) ⟨(congrArg some hq8), (dpE hd55 14 Z Z), (dpE hd55 12 Z Z), trivial⟩ (dg_on Z Z Z Z (Zx (R := RSpan) Z Z Z d115 Tryd.underlying121 (Tryd.sizeOf120 _) hx1 fun p27 hp27 => ⟨BX.refl _ _, ⟨_, Z, hp27⟩⟩))
      ·
       intro w62 D hS56 hd56
       have d118 : PA RSpan M1 x1 (D 15) w62 := dpA hd56 15 Z
       obtain ⟨p28, e16, ha15⟩ := d118
       exact Zs (E' := [(27, (.pointer (some p28))), (24, (.bool false))]) ⟨(congrArg some e16), (dpE hd56 12 Z Z), trivial⟩ (dg_on Z Z Z Z (Zf Z Z Tryd.underlying120 Z (Tryd.sizeOf3 _) ⟨BX.refl _ _, ⟨_, Z, (ha15.fld fld_Span_Hi)⟩⟩))
      ·
       intro w63 D hS57 hd57
       have d120 : PA RInt M1 x1.Hi (D 16) w63 := dpA hd57 16 Z
       obtain ⟨p29, e17, ha16⟩ := d120
       refine Zs (E' := [(28, (.pointer (some p29))), (24, (.bool false))]) ⟨(congrArg some e17), (dpE hd57 12 Z Z), trivial⟩ (dg_on Z Z Z Z (Zl (R := RInt) Z Z ha16 (Tryd.sizeOf3 _) (Tryd.isAgg3 _) fun v27 hv27 => ?_))
       obtain rfl := Zi hv27
       exact Zb
      ·
       intro w64 D hS58 hd58
       exact Zs (E' := [(24, (.bool false)), (1, (.int .i64 a_top))]) ⟨(dpE hd58 12 Z Z), Z, trivial⟩ (dg_on Z Z Z Z (Zm Z Z Zb))
      ·
       intro w65 D hS59 hd59
       have hl65 := Le.no M1 hS59
       have hC65 := hC1.no hS59
       refine Zs (E' := [(29, (.int .i64 x1.Hi)), (30, (.int .i64 a_top)), (24, (.bool false))]) ⟨(dpE hd59 17 Z Z), (dpE hd59 18 Z Z), (dpE hd59 12 Z Z), trivial⟩ (dg_on Z Z Z Z (Zk Z Z Tryd.call118 (w_spec_l1In (hG.mono (hl1.trans hl65)) hC65.old hx3) fun v28 w66 hv28 => ?_))
       obtain ⟨hv28, hb7⟩ := hv28
       obtain rfl := vbool_eq hv28
       exact ⟨hb7, Z⟩
      ·
       intro w67 D hS60 hd60
       exact Zs (E' := [(31, (.bool true)), (24, (.bool false))]) ⟨(dpE hd60 19 Z Z), (dpE hd60 12 Z Z), trivial⟩ (dg_on Z Z Z Z (ow_not Z Z Zb))
      ·
       intro w68 D hS61 hd61
       exact Zs (E' := [(24, (.bool false)), (32, (.bool false))]) ⟨(dpE hd61 12 Z Z), (dpE hd61 20 Z Z), trivial⟩ (Zp Z (ow_pickF Z Z Z Zb))
      ·
       intro w69 D hS62 hd62
       exact Zs (E' := [(33, (.bool false))]) ⟨(dpE hd62 21 Z Z), trivial⟩ (Zp Z (Zm Z Z Zb))
      ·
       intro w70 D hS63 hd63
       exact Zs (E' := [(34, (.bool false)), (5, (.int .i64 k1))]) ⟨(dpE hd63 22 Z Z), Z, trivial⟩ (dg_on Z Z Z Z (Zm Z Z Zb))
      ·
       intro w71 D hS64 hd64
       refine Zs (E' := [(35, (.int .i64 k1)), (34, (.bool false))]) ⟨(dpE hd64 23 Z Z), (dpE hd64 22 Z Z), trivial⟩ (dg_on Z Z Z Z (ow_gtr Z Z Z fun bb5 hbb5 => ?_))
       obtain rfl := hbb5.trans hc4
       exact Zb
      ·
       intro w72 D hS65 hd65
       exact Zs (E' := [(36, (.bool false)), (34, (.bool false))]) ⟨(dpE hd65 24 Z Z), (dpE hd65 22 Z Z), trivial⟩ (dg_on Z Z Z Z (Zm Z Z Zb))
      ·
       intro w73 D hS66 hd66
       exact Zs (E' := [(37, (.bool false)), (0, v0p)]) ⟨(dpE hd66 25 Z Z), Z, trivial⟩ (dg_off Z Z Z Z Zb)
      ·
       intro w74 D hS67 hd67
       exact Zs (E' := [(37, (.bool false)), (5, (.int .i64 k1))]) ⟨(dpE hd67 25 Z Z), Z, trivial⟩ (dg_off Z Z Z Z Zb)
      ·
       intro w75 D hS68 hd68
       exact Zs (E' := [(38, undef), (39, undef), (37, (.bool false))]) ⟨(dpE hd68 26 Z Z), (dpE hd68 27 Z Z), (dpE hd68 25 Z Z), trivial⟩ (dg_off Z Z Z Z Zb)
      ·
       intro w76 D hS69 hd69
       exact Zs (E' := [(40, undef), (37, (.bool false))]) ⟨(dpE hd69 28 Z Z), (dpE hd69 25 Z Z), trivial⟩ (dg_off Z Z Z Z Zb)
      ·
       intro w77 D hS70 hd70
       exact Zs (E' := [(41, undef), (37, (.bool false))]) ⟨(dpE hd70 29 Z Z), (dpE hd70 25 Z Z), trivial⟩ (dg_off Z Z Z Z Zb)
      ·
       intro w78 D hS71 hd71
       exact Zs (E' := [(37, (.bool false)), (0, v0p)]) ⟨(dpE hd71 25 Z Z), Z, trivial⟩ (dg_off Z Z Z Z Zb)
      ·
       intro w79 D hS72 hd72
       exact Zs (E' := [(37, (.bool false)), (5, (.int .i64 k1))]) ⟨(dpE hd72 25 Z Z), Z, trivial⟩ (dg_off Z Z Z Z Zb)
      ·
       intro w80 D hS73 hd73
       exact Zs (E' := [(44, undef), (37, (.bool false))]) ⟨(dpE hd73 32 Z Z), (dpE hd73 25 Z Z), trivial⟩ (dg_off Z Z Z Z Zb)
      ·
       intro w81 D hS74 hd74
       exact Zs (E' := [(43, undef), (45, undef), (37, (.bool false))]) ⟨(dpE hd74 31 Z Z), (dpE hd74 33 Z Z), (dpE hd74 25 Z Z), trivial⟩ (dg_off Z Z Z Z Zb)
      ·
       intro w82 D hS75 hd75
       exact Zs (E' := [(46, undef), (37, (.bool false))]) ⟨(dpE hd75 34 Z Z), (dpE hd75 25 Z Z), trivial⟩ (dg_off Z Z Z Z Zb)
      ·
       intro w83 D hS76 hd76
       exact Zs (E' := [(47, undef), (37, (.bool false))]) ⟨(dpE hd76 35 Z Z), (dpE hd76 25 Z Z), trivial⟩ (dg_off Z Z Z Z Zb)
      ·
       intro w84 D hS77 hd77
       exact Zs (E' := [(48, undef), (37, (.bool false))]) ⟨(dpE hd77 36 Z Z), (dpE hd77 25 Z Z), trivial⟩ (dg_off Z Z Z Z Zb)
      ·
       intro w85 D hS78 hd78
       have hl85 := Le.no M1 hS78
       have hC85 := hC1.no hS78
       exact lw_sub (E' := [(34, (.bool false)), (37, (.bool false)), (42, undef), (49, undef), (0, v0p), (1, (.int .i64 a_top)), (5, (.int .i64 k1))]) ⟨(dpE hd78 22 Z Z), (dpE hd78 25 Z Z), (dpE hd78 30 Z Z), (dpE hd78 37 Z Z), Z, Z, Z, trivial⟩ (lw_off Z Z Z Z Z Z (lw_on Z Z Z Z Z Z (ow_pickF Z Z Z (Zo Z Z Z (ow_pickF Z Z Z (Zn (Ze (Zu Z (cw_skip (ew_blockN (Ze (Zr (Zo Z Z Z (Zm Z Z (Zo Z Z Z (ow_add Z Z Z (Zo Z Z Z (Za Z Z (Zn (ew_nxt (W (k1 + 1)) hb1 fun a ha => ⟨M1, (ha.sub ⟨Z, Z, Z, trivial⟩), (hl1.trans hl85), hC85⟩))))))))))))))))))))
    ·
     subst hc3
     refine cw_sub (E' := [(0, v0p), (1, (.int .i64 a_top)), (5, (.int .i64 k1))]) ⟨Z, Z, Z, trivial⟩ (cw_drawQ 38 [PV (RSlice RSpan) M1 a_list, PEq (.int .i64 k1), PA RSpan M1 x1, PA RInt M1 x1.Lo, PEq (.int .i64 x1.Lo), PV (RSlice RSpan) M1 a_list, PEq (.int .i64 k1), PA RSpan M1 x1, PA RInt M1 x1.Hi, PEq (.int .i64 x1.Hi), PEq (.bool true), PEq (.bool false), PEq (.bool false), PV (RSlice RSpan) M1 a_list, PEq (.int .i64 k1), PA RSpan M1 x1, PA RInt M1 x1.Hi, PEq (.int .i64 x1.Hi), PEq (.int .i64 a_top), PEq (.bool false), PEq (.bool true), PEq (.bool true), PEq (.bool true), PEq undef, PEq undef, PEq undef, PEq undef, PEq undef, PEq undef, PEq undef, PEq undef, PEq undef, PEq undef, PEq undef, PEq undef, PEq undef, PEq undef, PEq undef] (by kernel_rfl) Z (by kernel_rfl) ⟨PV.mono _ _ _, Zq, PA.mono _ _ _, PA.mono _ _ _, Zq, PV.mono _ _ _, Zq, PA.mono _ _ _, PA.mono _ _ _, Zq, Zq, Zq, Zq, PV.mono _ _ _, Zq, PA.mono _ _ _, PA.mono _ _ _, Zq, Zq, Zq, Zq, Zq, Zq, Zq, Zq, Zq, Zq, Zq, Zq, Zq, Zq, Zq, Zq, Zq, Zq, Zq, Zq, Zq, trivial⟩ ⟨?_, ?_, ?_, ?_, ?_, ?_, ?_, ?_, ?_, ?_, ?_, ?_, ?_, ?_, ?_, ?_, ?_, ?_, ?_, ?_, ?_, ?_, ?_, ?_, ?_, ?_, ?_, ?_, ?_, ?_, ?_, ?_, ?_, ?_, ?_, ?_, ?_, ?_, trivial⟩ ?_)
     ·
      intro w86 D hS79 hd79
      have hl86 := Le.no M1 hS79
      exact Zs (E' := [(0, v0p)]) ⟨Z, trivial⟩ (Zp Z (Zm Z Z ⟨BX.refl _ _, (VRep.mono (hl1.trans hl86) h0)⟩))
     ·
      intro w87 D hS80 hd80
      exact Zs (E' := [(5, (.int .i64 k1))]) ⟨Z, trivial⟩ (Zp Z (Zm Z Z Zb))
     ·
      intro w88 D hS81 hd81
      have d199 : PV (RSlice RSpan) M1 a_list (D 0) w88 := dpA hd81 0 Z
      generalize hq9 : (D 0) = v29 at d199
      exact Zs (E' := [(12, v29), (13, (.int .i64 k1))]) ⟨(congrArg some hq9), (dpE hd81 1 Z Z), trivial⟩ (Zp Z (Zx (R := RSpan) Z Z Z d199 Tryd.underlying121 (Tryd.sizeOf120 _) hx1 fun p30 hp30 => ⟨BX.refl _ _, ⟨_, Z, hp30⟩⟩))
     ·
      intro w89 D hS82 hd82
      have d201 : PA RSpan M1 x1 (D 2) w89 := dpA hd82 2 Z
      obtain ⟨p31, e18, ha17⟩ := d201
      exact Zs (E' := [(14, (.pointer (some p31)))]) ⟨(congrArg some e18), trivial⟩ (Zp Z (Zf Z Z Tryd.underlying120 Z (Tryd.sizeOf3 _) ⟨BX.refl _ _, ⟨_, Z, (ha17.fld fld_Span_Lo)⟩⟩))
     ·
      intro w90 D hS83 hd83
      have d202 : PA RInt M1 x1.Lo (D 3) w90 := dpA hd83 3 Z
      obtain ⟨p32, e19, ha18⟩ := d202
      refine Zs (E' := [(15, (.pointer (some p32)))]) ⟨(congrArg some e19), trivial⟩ (Zp Z (Zl (R := RInt) Z Z ha18 (Tryd.sizeOf3 _) (Tryd.isAgg3 _) fun v30 hv30 => ?_))
      obtain rfl := Zi hv30
      exact Zb
     ·
      intro w91 D hS84 hd84
      have hl91 := Le.no M1 hS84
      exact Zs (E' := [(0, v0p)]) ⟨Z, trivial⟩ (Zp Z (Zm Z Z ⟨BX.refl _ _, (VRep.mono (hl1.trans hl91) h0)⟩))
     ·
      intro w92 D hS85 hd85
      exact Zs (E' := [(5, (.int .i64 k1))]) ⟨Z, trivial⟩ (Zp Z (Zm Z Z Zb))
     ·
      intro w93 D hS86 hd86
      have d203 : PV (RSlice RSpan) M1 a_list (D 5) w93 := dpA hd86 5 Z
      generalize hq10 : (D 5) = v31 at d203
      exact Zs (E' := [(17, v31), (18, (.int .i64 k1))]) ⟨(congrArg some hq10), (dpE hd86 6 Z Z), trivial⟩ (Zp Z (Zx (R := RSpan) Z Z Z d203 Tryd.underlying121 (Tryd.sizeOf120 _) hx1 fun p33 hp33 => ⟨BX.refl _ _, ⟨_, Z, hp33⟩⟩))
     ·
      intro w94 D hS87 hd87
      have d205 : PA RSpan M1 x1 (D 7) w94 := dpA hd87 7 Z
      obtain ⟨p34, e20, ha19⟩ := d205
      exact Zs (E' := [(19, (.pointer (some p34)))]) ⟨(congrArg some e20), trivial⟩ (Zp Z (Zf Z Z Tryd.underlying120 Z (Tryd.sizeOf3 _) ⟨BX.refl _ _, ⟨_, Z, (ha19.fld fld_Span_Hi)⟩⟩))
     ·
      intro w95 D hS88 hd88
      have d206 : PA RInt M1 x1.Hi (D 8) w95 := dpA hd88 8 Z
      obtain ⟨p35, e21, ha20⟩ := d206
      refine Zs (E' := [(20, (.pointer (some p35)))]) ⟨(congrArg some e21), trivial⟩ (Zp Z (Zl (R := RInt) Z Z ha20 (Tryd.sizeOf3 _) (Tryd.isAgg3 _) fun v32 hv32 => ?_))
      obtain rfl := Zi hv32
      exact Zb
     ·
      intro w96 D hS89 hd89
      have hl96 := Le.no M1 hS89
      have hC96 := hC1.no hS89
      refine Zs (E' := [(16, (.int .i64 x1.Lo)), (21, (.int .i64 x1.Hi))]) ⟨(dpE hd89 4 Z Z), (dpE hd89 9 Z Z), trivial⟩ (Zp Z (Zk Z Z Tryd.call118 (w_spec_l1In (hG.mono (hl1.trans hl96)) hC96.old hx2) fun v33 w97 hv33 => ?_))
      obtain ⟨hv33, hb8⟩ := hv33
      obtain rfl := vbool_eq hv33
      exact ⟨hb8, Z⟩
     ·
      intro w98 D hS90 hd90
      exact Zs (E' := [(22, (.bool true))]) ⟨(dpE hd90 10 Z Z), trivial⟩ (Zp Z (ow_not Z Z Zb))
     ·
      intro w99 D hS91 hd91
      exact Zs (E' := [(23, (.bool false))]) ⟨(dpE hd91 11 Z Z), trivial⟩ (Zp Z (Zm Z Z Zb))
     ·
      intro w100 D hS92 hd92
      have hl100 := Le.no M1 hS92
      exact Zs (E' := [(24, (.bool false)), (0, v0p)]) ⟨(dpE hd92 12 Z Z), Z, trivial⟩ (dg_on Z Z Z Z (Zm Z Z ⟨BX.refl _ _, (VRep.mono (hl1.trans hl100) h0)⟩))
     ·
      intro w101 D hS93 hd93
      exact Zs (E' := [(24, (.bool false)), (5, (.int .i64 k1))]) ⟨(dpE hd93 12 Z Z), Z, trivial⟩ (dg_on Z Z Z Z (Zm Z Z Zb))
     ·
      intro w102 D hS94 hd94
      have d214 : PV (RSlice RSpan) M1 a_list (D 13) w102 := dpA hd94 13 Z
      generalize hq11 : (D 13) = v34 at d214
      exact Zs (E' := [(25, v34), (26, (.int .i64 k1)), (24, (.bool false))]) ⟨(congrArg some hq11), (dpE hd94 14 Z Z), (dpE hd94 12 Z Z), trivial⟩ (dg_on Z Z Z Z (Zx (R := RSpan) Z Z Z d214 Tryd.underlying121 (Tryd.sizeOf120 _) hx1 fun p36 hp36 => ⟨BX.refl _ _, ⟨_, Z, hp36⟩⟩))
     ·
      intro w103 D hS95 hd95
      have d217 : PA RSpan M1 x1 (D 15) w103 := dpA hd95 15 Z
      obtain ⟨p37, e22, ha21⟩ := d217
      exact Zs (E' := [(27, (.pointer (some p37))), (24, (.bool false))]) ⟨(congrArg some e22), (dpE hd95 12 Z Z), trivial⟩ (dg_on Z Z Z Z (Zf Z Z Tryd.underlying120 Z (Tryd.sizeOf3 _) ⟨BX.refl _ _, ⟨_, Z, (ha21.fld fld_Span_Hi)⟩⟩))
     ·
      intro w104 D hS96 hd96
      have d219 : PA RInt M1 x1.Hi (D 16) w104 := dpA hd96 16 Z
      obtain ⟨p38, e23, ha22⟩ := d219
      refine Zs (E' := [(28, (.pointer (some p38))), (24, (.bool false))]) ⟨(congrArg some e23), (dpE hd96 12 Z Z), trivial⟩ (dg_on Z Z Z Z (Zl (R := RInt) Z Z ha22 (Tryd.sizeOf3 _) (Tryd.isAgg3 _) fun v35 hv35 => ?_))
      obtain rfl := Zi hv35
      exact Zb
     ·
      intro w105 D hS97 hd97
      exact Zs (E' := [(24, (.bool false)), (1, (.int .i64 a_top))]) ⟨(dpE hd97 12 Z Z), Z, trivial⟩ (dg_on Z Z Z Z (Zm Z Z Zb))
     ·
      intro w106 D hS98 hd98
      have hl106 := Le.no M1 hS98
      have hC106 := hC1.no hS98
      refine Zs (E' := [(29, (.int .i64 x1.Hi)), (30, (.int .i64 a_top)), (24, (.bool false))]) ⟨(dpE hd98 17 Z Z), (dpE hd98 18 Z Z), (dpE hd98 12 Z Z), trivial⟩ (dg_on Z Z Z Z (Zk Z Z Tryd.call118 (w_spec_l1In (hG.mono (hl1.trans hl106)) hC106.old hx3) fun v36 w107 hv36 => ?_))
      obtain ⟨hv36, hb9⟩ := hv36
      obtain rfl := vbool_eq hv36
      exact ⟨hb9, Z⟩
     ·
      intro w108 D hS99 hd99
      exact Zs (E' := [(31, (.bool false)), (24, (.bool false))]) ⟨(dpE hd99 19 Z Z), (dpE hd99 12 Z Z), trivial⟩ (dg_on Z Z Z Z (ow_not Z Z Zb))
     ·
      intro w109 D hS100 hd100
      exact Zs (E' := [(24, (.bool false)), (32, (.bool true))]) ⟨(dpE hd100 12 Z Z), (dpE hd100 20 Z Z), trivial⟩ (Zp Z (ow_pickF Z Z Z Zb))
     ·
      intro w110 D hS101 hd101
      exact Zs (E' := [(33, (.bool true))]) ⟨(dpE hd101 21 Z Z), trivial⟩ (Zp Z (Zm Z Z Zb))
     ·
      intro w111 D hS102 hd102
      exact Zs (E' := [(34, (.bool true)), (5, (.int .i64 k1))]) ⟨(dpE hd102 22 Z Z), Z, trivial⟩ (dg_off Z Z Z Z Zb)
     ·
      intro w112 D hS103 hd103
      exact Zs (E' := [(35, undef), (34, (.bool true))]) ⟨(dpE hd103 23 Z Z), (dpE hd103 22 Z Z), trivial⟩ (dg_off Z Z Z Z Zb)
     ·
      intro w113 D hS104 hd104
      exact Zs (E' := [(36, undef), (34, (.bool true))]) ⟨(dpE hd104 24 Z Z), (dpE hd104 22 Z Z), trivial⟩ (dg_off Z Z Z Z Zb)
     ·
      intro w114 D hS105 hd105
      exact Zs (E' := [(37, undef), (0, v0p)]) ⟨(dpE hd105 25 Z Z), Z, trivial⟩ (dg_off' Z Z Z Z Zb)
     ·
      intro w115 D hS106 hd106
      exact Zs (E' := [(37, undef), (5, (.int .i64 k1))]) ⟨(dpE hd106 25 Z Z), Z, trivial⟩ (dg_off' Z Z Z Z Zb)
     ·
      intro w116 D hS107 hd107
      exact Zs (E' := [(38, undef), (39, undef), (37, undef)]) ⟨(dpE hd107 26 Z Z), (dpE hd107 27 Z Z), (dpE hd107 25 Z Z), trivial⟩ (dg_off' Z Z Z Z Zb)
     ·
      intro w117 D hS108 hd108
      exact Zs (E' := [(40, undef), (37, undef)]) ⟨(dpE hd108 28 Z Z), (dpE hd108 25 Z Z), trivial⟩ (dg_off' Z Z Z Z Zb)
     ·
      intro w118 D hS109 hd109
      exact Zs (E' := [(41, undef), (37, undef)]) ⟨(dpE hd109 29 Z Z), (dpE hd109 25 Z Z), trivial⟩ (dg_off' Z Z Z Z Zb)
     ·
      intro w119 D hS110 hd110
      exact Zs (E' := [(37, undef), (0, v0p)]) ⟨(dpE hd110 25 Z Z), Z, trivial⟩ (dg_off' Z Z Z Z Zb)
     ·
      intro w120 D hS111 hd111
      exact Zs (E' := [(37, undef), (5, (.int .i64 k1))]) ⟨(dpE hd111 25 Z Z), Z, trivial⟩ (dg_off' Z Z Z Z Zb)
     ·
      intro w121 D hS112 hd112
      exact Zs (E' := [(44, undef), (37, undef)]) ⟨(dpE hd112 32 Z Z), (dpE hd112 25 Z Z), trivial⟩ (dg_off' Z Z Z Z Zb)
     ·
      intro w122 D hS113 hd113
      exact Zs (E' := [(43, undef), (45, undef), (37, undef)]) ⟨(dpE hd113 31 Z Z), (dpE hd113 33 Z Z), (dpE hd113 25 Z Z), trivial⟩ (dg_off' Z Z Z Z Zb)
     ·
      intro w123 D hS114 hd114
      exact Zs (E' := [(46, undef), (37, undef)]) ⟨(dpE hd114 34 Z Z), (dpE hd114 25 Z Z), trivial⟩ (dg_off' Z Z Z Z Zb)
     ·
      intro w124 D hS115 hd115
      exact Zs (E' := [(47, undef), (37, undef)]) ⟨(dpE hd115 35 Z Z), (dpE hd115 25 Z Z), trivial⟩ (dg_off' Z Z Z Z Zb)
     ·
      intro w125 D hS116 hd116
      exact Zs (E' := [(48, undef), (37, undef)]) ⟨(dpE hd116 36 Z Z), (dpE hd116 25 Z Z), trivial⟩ (dg_off' Z Z Z Z Zb)
     ·
      intro w126 D hS117 hd117
      have hC126 := hC1.no hS117
      refine lw_sub (E' := [(34, (.bool true)), (37, undef), (42, undef), (49, undef), (0, v0p), (1, (.int .i64 a_top)), (5, (.int .i64 k1))]) ⟨(dpE hd117 22 Z Z), (dpE hd117 25 Z Z), (dpE hd117 30 Z Z), (dpE hd117 37 Z Z), Z, Z, Z, trivial⟩ (lw_off' Z Z Z Z Z Z (lw_off Z Z Z Z Z Z (Zo Z Z Z (ow_pickT Z Z Z (Zn (Ze (Zt Z (cw_seq (Zr (Zo Z Z Z (Za Z Z (Zn (Ze (Zy (ew_blockR (Zh (Zh (ew_blockR (ew_brkR (Zh ?_))))))))))))))))))))
      have e24 := hR1 _ (sj hb1).symm
      subst e24
      obtain rfl := sj h
      exact ew_ret (res1 Z (.tmp Z)) ⟨_, Z, ((vbool _)), hC126.bx⟩
   ·
    subst hc2
    refine cw_sub (E' := [(0, v0p), (1, (.int .i64 a_top)), (5, (.int .i64 k1))]) ⟨Z, Z, Z, trivial⟩ (cw_drawQ 38 [PV (RSlice RSpan) M1 a_list, PEq (.int .i64 k1), PA RSpan M1 x1, PA RInt M1 x1.Lo, PEq (.int .i64 x1.Lo), PV (RSlice RSpan) M1 a_list, PEq (.int .i64 k1), PA RSpan M1 x1, PA RInt M1 x1.Hi, PEq (.int .i64 x1.Hi), PEq (.bool false), PEq (.bool true), PEq (.bool true), PEq undef, PEq undef, PEq undef, PEq undef, PEq undef, PEq undef, PEq undef, PEq undef, PEq (.bool true), PEq (.bool true), PEq undef, PEq undef, PEq undef, PEq undef, PEq undef, PEq undef, PEq undef, PEq undef, PEq undef, PEq undef, PEq undef, PEq undef, PEq undef, PEq undef, PEq undef] (by kernel_rfl) Z (by kernel_rfl) ⟨PV.mono _ _ _, Zq, PA.mono _ _ _, PA.mono _ _ _, Zq, PV.mono _ _ _, Zq, PA.mono _ _ _, PA.mono _ _ _, Zq, Zq, Zq, Zq, Zq, Zq, Zq, Zq, Zq, Zq, Zq, Zq, Zq, Zq, Zq, Zq, Zq, Zq, Zq, Zq, Zq, Zq, Zq, Zq, Zq, Zq, Zq, Zq, Zq, trivial⟩ ⟨?_, ?_, ?_, ?_, ?_, ?_, ?_, ?_, ?_, ?_, ?_, ?_, ?_, ?_, ?_, ?_, ?_, ?_, ?_, ?_, ?_, ?_, ?_, ?_, ?_, ?_, ?_, ?_, ?_, ?_, ?_, ?_, ?_, ?_, ?_, ?_, ?_, ?_, trivial⟩ ?_)
    ·
     intro w127 D hS118 hd118
     have hl127 := Le.no M1 hS118
     exact Zs (E' := [(0, v0p)]) ⟨Z, trivial⟩ (Zp Z (Zm Z Z ⟨BX.refl _ _, (VRep.mono (hl1.trans hl127) h0)⟩))
    ·
     intro w128 D hS119 hd119
     exact Zs (E' := [(5, (.int .i64 k1))]) ⟨Z, trivial⟩ (Zp Z (Zm Z Z Zb))
    ·
     intro w129 D hS120 hd120
     have d298 : PV (RSlice RSpan) M1 a_list (D 0) w129 := dpA hd120 0 Z
     generalize hq12 : (D 0) = v37 at d298
     exact Zs (E' := [(12, v37), (13, (.int .i64 k1))]) ⟨(congrArg some hq12), (dpE hd120 1 Z Z), trivial⟩ (Zp Z (Zx (R := RSpan) Z Z Z d298 Tryd.underlying121 (Tryd.sizeOf120 _) hx1 fun p39 hp39 => ⟨BX.refl _ _, ⟨_, Z, hp39⟩⟩))
    ·
     intro w130 D hS121 hd121
     have d300 : PA RSpan M1 x1 (D 2) w130 := dpA hd121 2 Z
     obtain ⟨p40, e25, ha23⟩ := d300
     exact Zs (E' := [(14, (.pointer (some p40)))]) ⟨(congrArg some e25), trivial⟩ (Zp Z (Zf Z Z Tryd.underlying120 Z (Tryd.sizeOf3 _) ⟨BX.refl _ _, ⟨_, Z, (ha23.fld fld_Span_Lo)⟩⟩))
    ·
     intro w131 D hS122 hd122
     have d301 : PA RInt M1 x1.Lo (D 3) w131 := dpA hd122 3 Z
     obtain ⟨p41, e26, ha24⟩ := d301
     refine Zs (E' := [(15, (.pointer (some p41)))]) ⟨(congrArg some e26), trivial⟩ (Zp Z (Zl (R := RInt) Z Z ha24 (Tryd.sizeOf3 _) (Tryd.isAgg3 _) fun v38 hv38 => ?_))
     obtain rfl := Zi hv38
     exact Zb
    ·
     intro w132 D hS123 hd123
     have hl132 := Le.no M1 hS123
     exact Zs (E' := [(0, v0p)]) ⟨Z, trivial⟩ (Zp Z (Zm Z Z ⟨BX.refl _ _, (VRep.mono (hl1.trans hl132) h0)⟩))
    ·
     intro w133 D hS124 hd124
     exact Zs (E' := [(5, (.int .i64 k1))]) ⟨Z, trivial⟩ (Zp Z (Zm Z Z Zb))
    ·
     intro w134 D hS125 hd125
     have d302 : PV (RSlice RSpan) M1 a_list (D 5) w134 := dpA hd125 5 Z
     generalize hq13 : (D 5) = v39 at d302
     exact Zs (E' := [(17, v39), (18, (.int .i64 k1))]) ⟨(congrArg some hq13), (dpE hd125 6 Z Z), trivial⟩ (Zp Z (Zx (R := RSpan) Z Z Z d302 Tryd.underlying121 (Tryd.sizeOf120 _) hx1 fun p42 hp42 => ⟨BX.refl _ _, ⟨_, Z, hp42⟩⟩))
    ·
     intro w135 D hS126 hd126
     have d304 : PA RSpan M1 x1 (D 7) w135 := dpA hd126 7 Z
     obtain ⟨p43, e27, ha25⟩ := d304
     exact Zs (E' := [(19, (.pointer (some p43)))]) ⟨(congrArg some e27), trivial⟩ (Zp Z (Zf Z Z Tryd.underlying120 Z (Tryd.sizeOf3 _) ⟨BX.refl _ _, ⟨_, Z, (ha25.fld fld_Span_Hi)⟩⟩))
    ·
     intro w136 D hS127 hd127
     have d305 : PA RInt M1 x1.Hi (D 8) w136 := dpA hd127 8 Z
     obtain ⟨p44, e28, ha26⟩ := d305
     refine Zs (E' := [(20, (.pointer (some p44)))]) ⟨(congrArg some e28), trivial⟩ (Zp Z (Zl (R := RInt) Z Z ha26 (Tryd.sizeOf3 _) (Tryd.isAgg3 _) fun v40 hv40 => ?_))
     obtain rfl := Zi hv40
     exact Zb
    ·
     intro w137 D hS128 hd128
     have hl137 := Le.no M1 hS128
     have hC137 := hC1.no hS128
     refine Zs (E' := [(16, (.int .i64 x1.Lo)), (21, (.int .i64 x1.Hi))]) ⟨(dpE hd128 4 Z Z), (dpE hd128 9 Z Z), trivial⟩ (Zp Z (Zk Z Z Tryd.call118 (w_spec_l1In (hG.mono (hl1.trans hl137)) hC137.old hx2) fun v41 w138 hv41 => ?_))
     obtain ⟨hv41, hb10⟩ := hv41
     obtain rfl := vbool_eq hv41
     exact ⟨hb10, Z⟩
    ·
     intro w139 D hS129 hd129
     exact Zs (E' := [(22, (.bool false))]) ⟨(dpE hd129 10 Z Z), trivial⟩ (Zp Z (ow_not Z Z Zb))
    ·
     intro w140 D hS130 hd130
     exact Zs (E' := [(23, (.bool true))]) ⟨(dpE hd130 11 Z Z), trivial⟩ (Zp Z (Zm Z Z Zb))
    ·
     intro w141 D hS131 hd131
     exact Zs (E' := [(24, (.bool true)), (0, v0p)]) ⟨(dpE hd131 12 Z Z), Z, trivial⟩ (dg_off Z Z Z Z Zb)
    ·
     intro w142 D hS132 hd132
     exact Zs (E' := [(24, (.bool true)), (5, (.int .i64 k1))]) ⟨(dpE hd132 12 Z Z), Z, trivial⟩ (dg_off Z Z Z Z Zb)
    ·
     intro w143 D hS133 hd133
     exact Zs (E' := [(25, undef), (26, undef), (24, (.bool true))]) ⟨(dpE hd133 13 Z Z), (dpE hd133 14 Z Z), (dpE hd133 12 Z Z), trivial⟩ (dg_off Z Z Z Z Zb)
    ·
     intro w144 D hS134 hd134
     exact Zs (E' := [(27, undef), (24, (.bool true))]) ⟨(dpE hd134 15 Z Z), (dpE hd134 12 Z Z), trivial⟩ (dg_off Z Z Z Z Zb)
    ·
     intro w145 D hS135 hd135
     exact Zs (E' := [(28, undef), (24, (.bool true))]) ⟨(dpE hd135 16 Z Z), (dpE hd135 12 Z Z), trivial⟩ (dg_off Z Z Z Z Zb)
    ·
     intro w146 D hS136 hd136
     exact Zs (E' := [(24, (.bool true)), (1, (.int .i64 a_top))]) ⟨(dpE hd136 12 Z Z), Z, trivial⟩ (dg_off Z Z Z Z Zb)
    ·
     intro w147 D hS137 hd137
     exact Zs (E' := [(29, undef), (30, undef), (24, (.bool true))]) ⟨(dpE hd137 17 Z Z), (dpE hd137 18 Z Z), (dpE hd137 12 Z Z), trivial⟩ (dg_off Z Z Z Z Zb)
    ·
     intro w148 D hS138 hd138
     exact Zs (E' := [(31, undef), (24, (.bool true))]) ⟨(dpE hd138 19 Z Z), (dpE hd138 12 Z Z), trivial⟩ (dg_off Z Z Z Z Zb)
    ·
     intro w149 D hS139 hd139
     exact Zs (E' := [(24, (.bool true)), (32, undef)]) ⟨(dpE hd139 12 Z Z), (dpE hd139 20 Z Z), trivial⟩ (Zp Z (ow_pickT Z Z Z Zb))
    ·
     intro w150 D hS140 hd140
     exact Zs (E' := [(33, (.bool true))]) ⟨(dpE hd140 21 Z Z), trivial⟩ (Zp Z (Zm Z Z Zb))
    ·
     intro w151 D hS141 hd141
     exact Zs (E' := [(34, (.bool true)), (5, (.int .i64 k1))]) ⟨(dpE hd141 22 Z Z), Z, trivial⟩ (dg_off Z Z Z Z Zb)
    ·
     intro w152 D hS142 hd142
     exact Zs (E' := [(35, undef), (34, (.bool true))]) ⟨(dpE hd142 23 Z Z), (dpE hd142 22 Z Z), trivial⟩ (dg_off Z Z Z Z Zb)
    ·
     intro w153 D hS143 hd143
     exact Zs (E' := [(36, undef), (34, (.bool true))]) ⟨(dpE hd143 24 Z Z), (dpE hd143 22 Z Z), trivial⟩ (dg_off Z Z Z Z Zb)
    ·
     intro w154 D hS144 hd144
     exact Zs (E' := [(37, undef), (0, v0p)]) ⟨(dpE hd144 25 Z Z), Z, trivial⟩ (dg_off' Z Z Z Z Zb)
    ·
     intro w155 D hS145 hd145
     exact Zs (E' := [(37, undef), (5, (.int .i64 k1))]) ⟨(dpE hd145 25 Z Z), Z, trivial⟩ (dg_off' Z Z Z Z Zb)
    ·
     intro w156 D hS146 hd146
     exact Zs (E' := [(38, undef), (39, undef), (37, undef)]) ⟨(dpE hd146 26 Z Z), (dpE hd146 27 Z Z), (dpE hd146 25 Z Z), trivial⟩ (dg_off' Z Z Z Z Zb)
    ·
     intro w157 D hS147 hd147
     exact Zs (E' := [(40, undef), (37, undef)]) ⟨(dpE hd147 28 Z Z), (dpE hd147 25 Z Z), trivial⟩ (dg_off' Z Z Z Z Zb)
    ·
     intro w158 D hS148 hd148
     exact Zs (E' := [(41, undef), (37, undef)]) ⟨(dpE hd148 29 Z Z), (dpE hd148 25 Z Z), trivial⟩ (dg_off' Z Z Z Z Zb)
    ·
     intro w159 D hS149 hd149
     exact Zs (E' := [(37, undef), (0, v0p)]) ⟨(dpE hd149 25 Z Z), Z, trivial⟩ (dg_off' Z Z Z Z Zb)
    ·
     intro w160 D hS150 hd150
     exact Zs (E' := [(37, undef), (5, (.int .i64 k1))]) ⟨(dpE hd150 25 Z Z), Z, trivial⟩ (dg_off' Z Z Z Z Zb)
    ·
     intro w161 D hS151 hd151
     exact Zs (E' := [(44, undef), (37, undef)]) ⟨(dpE hd151 32 Z Z), (dpE hd151 25 Z Z), trivial⟩ (dg_off' Z Z Z Z Zb)
    ·
     intro w162 D hS152 hd152
     exact Zs (E' := [(43, undef), (45, undef), (37, undef)]) ⟨(dpE hd152 31 Z Z), (dpE hd152 33 Z Z), (dpE hd152 25 Z Z), trivial⟩ (dg_off' Z Z Z Z Zb)
    ·
     intro w163 D hS153 hd153
     exact Zs (E' := [(46, undef), (37, undef)]) ⟨(dpE hd153 34 Z Z), (dpE hd153 25 Z Z), trivial⟩ (dg_off' Z Z Z Z Zb)
    ·
     intro w164 D hS154 hd154
     exact Zs (E' := [(47, undef), (37, undef)]) ⟨(dpE hd154 35 Z Z), (dpE hd154 25 Z Z), trivial⟩ (dg_off' Z Z Z Z Zb)
    ·
     intro w165 D hS155 hd155
     exact Zs (E' := [(48, undef), (37, undef)]) ⟨(dpE hd155 36 Z Z), (dpE hd155 25 Z Z), trivial⟩ (dg_off' Z Z Z Z Zb)
    ·
     intro w166 D hS156 hd156
     have hC166 := hC1.no hS156
     refine lw_sub (E' := [(34, (.bool true)), (37, undef), (42, undef), (49, undef), (0, v0p), (1, (.int .i64 a_top)), (5, (.int .i64 k1))]) ⟨(dpE hd156 22 Z Z), (dpE hd156 25 Z Z), (dpE hd156 30 Z Z), (dpE hd156 37 Z Z), Z, Z, Z, trivial⟩ (lw_off' Z Z Z Z Z Z (lw_off Z Z Z Z Z Z (Zo Z Z Z (ow_pickT Z Z Z (Zn (Ze (Zt Z (cw_seq (Zr (Zo Z Z Z (Za Z Z (Zn (Ze (Zy (ew_blockR (Zh (Zh (ew_blockR (ew_brkR (Zh ?_))))))))))))))))))))
     have e29 := hR1 _ (sj hb1).symm
     subst e29
     obtain rfl := sj h
     exact ew_ret (res1 Z (.tmp Z)) ⟨_, Z, ((vbool _)), hC166.bx⟩
  ·
   obtain rfl := hbb1.trans hc1
   exact Zu Z (cw_exit (ew_thenX (ew_thenX (ew_blockX (ew_brk k1 hb1 fun a ha => ⟨M1, (ha.sub ⟨Z, Z, Z, trivial⟩), hl1, hC1⟩)))))
 ·
  rintro k2 a w167 hlr2 ⟨M2, hF2, hl167, hC167⟩
  subst hlr2
  refine ew_at (E := [(0, v0p), (1, (.int .i64 a_top)), (5, (.int .i64 k2))]) hF2 (Ze (cw_seq (Zr (Zo Z Z Z (Zm Z Z ?_)))))
  replace h := bind_some h
  obtain ⟨x5, hx5, h⟩ := h
  refine Zo Z Z Z (Zk Z Z Tryd.call118 (w_spec_l1In (hG.mono hl167) hC167.old hx5) fun v43 w168 hv43 => ?_)
  obtain ⟨hv43, hb11⟩ := hv43
  have hl168 := Le.no M2 hb11
  have hC168 := hC167.no hb11
  obtain rfl := vbool_eq hv43
  refine Zo Z Z Z (Zm Z Z ?_)
  replace h := Zc h
  rcases h with ⟨hc6, h⟩ | ⟨hc6, h⟩
  ·
   subst hc6
   refine lw_on Z Z Z Z Z Z (Zm Z Z (lw_on Z Z Z Z Z Z (ow_len Z Z (VRep.mono (hl167.trans hl168) h0) Tryd.underlying121 Z (lw_on Z Z Z Z Z Z (ow_leq Z Z Z fun bb6 hbb6 => Zo Z Z Z (ow_pickT Z Z Z (Zo Z Z Z (Za Z Z (Zn (Ze (Zy ?_)))))))))))
   obtain rfl := sj h
   exact ew_ret (res1 Z (.tmp Z)) ⟨_, Z, ((vbool_of hbb6)), hC168.bx⟩
  ·
   subst hc6
   refine lw_off Z Z Z Z Z Z (lw_off Z Z Z Z Z Z (lw_off Z Z Z Z Z Z (Zo Z Z Z (ow_pickF Z Z Z (Zo Z Z Z (Za Z Z (Zn (Ze (Zy ?_)))))))))
   obtain rfl := sj h
   exact ew_ret (res1 Z (.tmp Z)) ⟨_, Z, ((vbool _)), hC168.bx⟩

theorem w_spec_BoxValid {w : World} {M : Nat → Prop} (hG : ARep (RArr 4 RShape) w M shapes ⟨0, 0, none⟩) (hO : ∀ b, M b → b < w.heap.size) {v0p : Value} {a_b : Box} (h0 : VRep RBox w M a_b v0p) {r : Bool} (h : F.spec_BoxValid a_b = some r) :
  Calls Tryd.prog 71 [v0p].toArray w fun e w' => ∃ v, e = .returned v ∧ VRep RBool w' M r v ∧ BX No w w' := by
 have hC : Cx No w M w M := Cx.start hO (fun _ e => e.elim)
 refine walk (N := 28) Tryd.func71 Z Tryd.ntmps71 Z (cw_seq (Zr (Zo Z Z Z (ow_box (R := RBox) Z Z h0 hC fun p1 w1 hp1 hb1 hl1 hC1 => Zo Z Z Z (Za Z Z (Zn (Ze (cw_seq (cw_seq (Zr (Zo Z Z Z (Za Z Z (Zn (Ze ?_))))))))))))))
 replace h := bind_some h
 obtain ⟨lr1, hlr1, h⟩ := h
 refine cw_for hlr1 (fun s a w' => ∃ (M' : Nat → Prop), Fits 28 [(1, (.pointer (some p1))), (3, (.int .i64 s))] a ∧ Le w1 M w' M' ∧ Cx No w M w' M') ?_ ?_ ?_
 ·
  intro a ha
  exact ⟨M, ha.sub ⟨Z, Z, trivial⟩, Le.refl _ _, hC1⟩
 ·
  rintro k1 a w2 sr1 ⟨M1, hF1, hl2, hC2⟩ hb2 hR1
  refine cw_at (E := [(1, (.pointer (some p1))), (3, (.int .i64 k1))]) hF1 (cw_seq (cw_seq (Zr (Zo Z Z Z (Zm Z Z (Zo Z Z Z (Zf Z Z Tryd.underlying48 Z (Tryd.sizeOf46 _) (Zo Z Z Z (Zl (R := (RSlice (RSlice RSpan))) Z Z (ARep.mono hl2 (hp1.fld fld_Box_Sides)) (Tryd.sizeOf46 _) (Tryd.isAgg46 _) fun v2 hv2 => Zo Z Z Z (ow_len Z Z hv2 Tryd.underlying46 Z (Zo Z Z Z (ow_lss Z Z Z fun bb1 hbb1 => Zn (Ze ?_)))))))))))))
  replace hb2 := Zc hb2
  rcases hb2 with ⟨hc1, hb2⟩ | ⟨hc1, hb2⟩
  ·
   obtain rfl := hbb1.trans hc1
   refine Zt Z (cw_skip (Ze (cw_seq (cw_block (cw_seq ?_)))))
   replace hb2 := Zc hb2
   rcases hb2 with ⟨hc2, hb2⟩ | ⟨hc2, hb2⟩
   ·
    refine cw_sub (E' := [(1, (.pointer (some p1))), (3, (.int .i64 k1))]) ⟨Z, Z, trivial⟩ (cw_drawQ 10 [PEq (.int .i64 k1), PEq (.bool true), PEq (.bool true), PEq undef, PEq undef, PEq undef, PEq undef, PEq undef, PEq undef, PEq undef] (by kernel_rfl) Z (by kernel_rfl) ⟨Zq, Zq, Zq, Zq, Zq, Zq, Zq, Zq, Zq, Zq, trivial⟩ ⟨?_, ?_, ?_, ?_, ?_, ?_, ?_, ?_, ?_, ?_, trivial⟩ ?_)
    ·
     intro w3 D hS1 hd1
     exact Zs (E' := [(3, (.int .i64 k1))]) ⟨Z, trivial⟩ (Zp Z (Zm Z Z Zb))
    ·
     intro w4 D hS2 hd2
     refine Zs (E' := [(11, (.int .i64 k1))]) ⟨(dpE hd2 0 Z Z), trivial⟩ (Zp Z (ow_geq Z Z Z fun bb3 hbb3 => ?_))
     obtain rfl := hbb3.trans hc2
     exact Zb
    ·
     intro w5 D hS3 hd3
     exact Zs (E' := [(12, (.bool true))]) ⟨(dpE hd3 1 Z Z), trivial⟩ (Zp Z (Zm Z Z Zb))
    ·
     intro w6 D hS4 hd4
     exact Zs (E' := [(13, (.bool true)), (1, (.pointer (some p1)))]) ⟨(dpE hd4 2 Z Z), Z, trivial⟩ (dg_off Z Z Z Z Zb)
    ·
     intro w7 D hS5 hd5
     exact Zs (E' := [(14, undef), (13, (.bool true))]) ⟨(dpE hd5 3 Z Z), (dpE hd5 2 Z Z), trivial⟩ (dg_off Z Z Z Z Zb)
    ·
     intro w8 D hS6 hd6
     exact Zs (E' := [(13, (.bool true)), (3, (.int .i64 k1))]) ⟨(dpE hd6 2 Z Z), Z, trivial⟩ (dg_off Z Z Z Z Zb)
    ·
     intro w9 D hS7 hd7
     exact Zs (E' := [(15, undef), (16, undef), (13, (.bool true))]) ⟨(dpE hd7 4 Z Z), (dpE hd7 5 Z Z), (dpE hd7 2 Z Z), trivial⟩ (dg_off Z Z Z Z Zb)
    ·
     intro w10 D hS8 hd8
     exact Zs (E' := [(17, undef), (13, (.bool true))]) ⟨(dpE hd8 6 Z Z), (dpE hd8 2 Z Z), trivial⟩ (dg_off Z Z Z Z Zb)
    ·
     intro w11 D hS9 hd9
     exact Zs (E' := [(13, (.bool true)), (3, (.int .i64 k1))]) ⟨(dpE hd9 2 Z Z), Z, trivial⟩ (dg_off Z Z Z Z Zb)
    ·
     intro w12 D hS10 hd10
     exact Zs (E' := [(19, undef), (13, (.bool true))]) ⟨(dpE hd10 8 Z Z), (dpE hd10 2 Z Z), trivial⟩ (dg_off Z Z Z Z Zb)
    ·
     intro w13 D hS11 hd11
     have hC13 := hC2.no hS11
     refine lw_sub (E' := [(13, (.bool true)), (18, undef), (20, undef), (1, (.pointer (some p1))), (3, (.int .i64 k1))]) ⟨(dpE hd11 2 Z Z), (dpE hd11 7 Z Z), (dpE hd11 9 Z Z), Z, Z, trivial⟩ (lw_off Z Z Z Z Z Z (lw_off Z Z Z Z Z Z (Zo Z Z Z (ow_pickT Z Z Z (Zn (Ze (Zt Z (cw_seq (Zr (Zo Z Z Z (Za Z Z (Zn (Ze (Zy (ew_blockR (Zh (Zh (ew_blockR (ew_brkR (Zh ?_))))))))))))))))))))
     have e1 := hR1 _ (sj hb2).symm
     subst e1
     obtain rfl := sj h
     exact ew_ret (res1 Z (.tmp Z)) ⟨_, Z, ((vbool _)), hC13.bx⟩
   ·
    replace hb2 := bind_some hb2
    obtain ⟨x1, hx1, hb2⟩ := hb2
    replace hb2 := bind_some hb2
    obtain ⟨x2, hx2, hb2⟩ := hb2
    have lz2 := (hl1.trans hl2)
    refine cw_sub (E' := [(1, (.pointer (some p1))), (3, (.int .i64 k1))]) ⟨Z, Z, trivial⟩ (cw_drawQ 10 [PEq (.int .i64 k1), PEq (.bool false), PEq (.bool false), PA (RSlice (RSlice RSpan)) M1 a_b.Sides, PV (RSlice (RSlice RSpan)) M1 a_b.Sides, PEq (.int .i64 k1), PA (RSlice RSpan) M1 x1, PV (RSlice RSpan) M1 x1, PEq (.int .i64 k1), PEq (.int .i64 x2)] (by kernel_rfl) Z (by kernel_rfl) ⟨Zq, Zq, Zq, PA.mono _ _ _, PV.mono _ _ _, Zq, PA.mono _ _ _, PV.mono _ _ _, Zq, Zq, trivial⟩ ⟨?_, ?_, ?_, ?_, ?_, ?_, ?_, ?_, ?_, ?_, trivial⟩ ?_)
    ·
     intro w15 D hS12 hd12
     exact Zs (E' := [(3, (.int .i64 k1))]) ⟨Z, trivial⟩ (Zp Z (Zm Z Z Zb))
    ·
     intro w16 D hS13 hd13
     refine Zs (E' := [(11, (.int .i64 k1))]) ⟨(dpE hd13 0 Z Z), trivial⟩ (Zp Z (ow_geq Z Z Z fun bb4 hbb4 => ?_))
     obtain rfl := hbb4.trans hc2
     exact Zb
    ·
     intro w17 D hS14 hd14
     exact Zs (E' := [(12, (.bool false))]) ⟨(dpE hd14 1 Z Z), trivial⟩ (Zp Z (Zm Z Z Zb))
    ·
     intro w18 D hS15 hd15
     have hl18 := Le.no M1 hS15
     exact Zs (E' := [(13, (.bool false)), (1, (.pointer (some p1)))]) ⟨(dpE hd15 2 Z Z), Z, trivial⟩ (dg_on Z Z Z Z (Zf Z Z Tryd.underlying48 Z (Tryd.sizeOf46 _) ⟨BX.refl _ _, ⟨_, Z, (ARep.mono (hl2.trans hl18) (hp1.fld fld_Box_Sides))⟩⟩))
    ·
     intro w19 D hS16 hd16
     have d29 : PA (RSlice (RSlice RSpan)) M1 a_b.Sides (D 3) w19 := dpA hd16 3 Z
     obtain ⟨p3, e2, ha1⟩ := d29
     exact Zs (E' := [(14, (.pointer (some p3))), (13, (.bool false))]) ⟨(congrArg some e2), (dpE hd16 2 Z Z), trivial⟩ (dg_on Z Z Z Z (Zl (R := (RSlice (RSlice RSpan))) Z Z ha1 (Tryd.sizeOf46 _) (Tryd.isAgg46 _) fun v6 hv6 => ⟨BX.refl _ _, hv6⟩))
    ·
     intro w20 D hS17 hd17
     exact Zs (E' := [(13, (.bool false)), (3, (.int .i64 k1))]) ⟨(dpE hd17 2 Z Z), Z, trivial⟩ (dg_on Z Z Z Z (Zm Z Z Zb))
    ·
     intro w21 D hS18 hd18
     have d32 : PV (RSlice (RSlice RSpan)) M1 a_b.Sides (D 4) w21 := dpA hd18 4 Z
     generalize hq1 : (D 4) = v7 at d32
     exact Zs (E' := [(15, v7), (16, (.int .i64 k1)), (13, (.bool false))]) ⟨(congrArg some hq1), (dpE hd18 5 Z Z), (dpE hd18 2 Z Z), trivial⟩ (dg_on Z Z Z Z (Zx (R := (RSlice RSpan)) Z Z Z d32 Tryd.underlying46 (Tryd.sizeOf121 _) hx1 fun p4 hp4 => ⟨BX.refl _ _, ⟨_, Z, hp4⟩⟩))
    ·
     intro w22 D hS19 hd19
     have d35 : PA (RSlice RSpan) M1 x1 (D 6) w22 := dpA hd19 6 Z
     obtain ⟨p5, e3, ha2⟩ := d35
     exact Zs (E' := [(17, (.pointer (some p5))), (13, (.bool false))]) ⟨(congrArg some e3), (dpE hd19 2 Z Z), trivial⟩ (dg_on Z Z Z Z (Zl (R := (RSlice RSpan)) Z Z ha2 (Tryd.sizeOf121 _) (Tryd.isAgg121 _) fun v8 hv8 => ⟨BX.refl _ _, hv8⟩))
    ·
     intro w23 D hS20 hd20
     exact Zs (E' := [(13, (.bool false)), (3, (.int .i64 k1))]) ⟨(dpE hd20 2 Z Z), Z, trivial⟩ (dg_on Z Z Z Z (Zm Z Z Zb))
    ·
     intro w24 D hS21 hd21
     have hl24 := Le.no M1 hS21
     have hC24 := hC2.no hS21
     refine Zs (E' := [(19, (.int .i64 k1)), (13, (.bool false))]) ⟨(dpE hd21 8 Z Z), (dpE hd21 2 Z Z), trivial⟩ (dg_on Z Z Z Z (Zk Z Z Tryd.call88 (w_spec_FieldTop (hG.mono (lz2.trans hl24)) hC24.old hx2) fun v9 w25 hv9 => ?_))
     obtain ⟨hv9, hb4⟩ := hv9
     obtain rfl := Zi hv9
     exact ⟨hb4, Z⟩
    ·
     intro w26 D hS22 hd22
     have d48 : PV (RSlice RSpan) M1 x1 (D 7) w26 := dpA hd22 7 Z
     have hl26 := Le.no M1 hS22
     have hC26 := hC2.no hS22
     generalize hq2 : (D 7) = v10 at d48
     refine lw_sub (E' := [(13, (.bool false)), (18, v10), (20, (.int .i64 x2)), (1, (.pointer (some p1))), (3, (.int .i64 k1))]) ⟨(dpE hd22 2 Z Z), (congrArg some hq2), (dpE hd22 9 Z Z), Z, Z, trivial⟩ ?_
     replace hb2 := bind_some hb2
     obtain ⟨x3, hx3, hb2⟩ := hb2
     refine lw_on Z Z Z Z Z Z (Zk Z Z Tryd.call133 (w_spec_SpansValid (hG.mono (lz2.trans hl26)) hC26.old d48 hx3) fun v11 w27 hv11 => ?_)
     obtain ⟨hv11, hb5⟩ := hv11
     have hl27 := Le.no M1 hb5
     have hC27 := hC26.no hb5
     obtain rfl := vbool_eq hv11
     refine lw_on Z Z Z Z Z Z (ow_not Z Z (Zo Z Z Z (ow_pickF Z Z Z (Zn (Ze ?_)))))
     replace hb2 := Zc hb2
     rcases hb2 with ⟨hc3, hb2⟩ | ⟨hc3, hb2⟩
     ·
      subst hc3
      refine Zu Z (cw_skip (ew_blockN (Ze (Zr (Zo Z Z Z (Zm Z Z (Zo Z Z Z (ow_add Z Z Z (Zo Z Z Z (Za Z Z (Zn ?_)))))))))))
      have lz3 := ((hl2.trans hl26).trans hl27)
      exact ew_nxt (W (k1 + 1)) hb2 fun a ha => ⟨M1, (ha.sub ⟨Z, Z, trivial⟩), lz3, hC27⟩
     ·
      subst hc3
      refine Zt Z (cw_seq (Zr (Zo Z Z Z (Za Z Z (Zn (Ze (Zy (ew_blockR (Zh (Zh (ew_blockR (ew_brkR (Zh ?_)))))))))))))
      have e4 := hR1 _ (sj hb2).symm
      subst e4
      obtain rfl := sj h
      exact ew_ret (res1 Z (.tmp Z)) ⟨_, Z, ((vbool _)), hC27.bx⟩
  ·
   obtain rfl := hbb1.trans hc1
   exact Zu Z (cw_exit (ew_thenX (ew_thenX (ew_blockX (ew_brk k1 hb2 fun a ha => ⟨M1, (ha.sub ⟨Z, Z, trivial⟩), hl2, hC2⟩)))))
 ·
  rintro k2 a w28 hlr2 ⟨M2, hF2, hl28, hC28⟩
  subst hlr2
  refine ew_at (E := [(1, (.pointer (some p1))), (3, (.int .i64 k2))]) hF2 (Ze (cw_seq (Zr (Zo Z Z Z (Zf Z Z Tryd.underlying48 Z (Tryd.sizeOf46 _) (Zo Z Z Z (Zl (R := (RSlice (RSlice RSpan))) Z Z (ARep.mono hl28 (hp1.fld fld_Box_Sides)) (Tryd.sizeOf46 _) (Tryd.isAgg46 _) fun v13 hv13 => Zo Z Z Z (ow_len Z Z hv13 Tryd.underlying46 Z (Zo Z Z Z (ow_eqlI Z Z Z fun bb5 hbb5 => Zo Z Z Z (Za Z Z (Zn (Ze (Zy ?_))))))))))))))
  obtain rfl := sj h
  exact ew_ret (res1 Z (.tmp Z)) ⟨_, Z, ((vbool_of hbb5)), hC28.bx⟩

theorem w_spec_l1OwnRowsSpan {w : World} {M : Nat → Prop} (_hG : ARep (RArr 4 RShape) w M shapes ⟨0, 0, none⟩) (hO : ∀ b, M b → b < w.heap.size) {v0p : Value} {a_list : List (List Span)} (h0 : VRep (RSlice (RSlice RSpan)) w M a_list v0p) {r : (List (List Span))} (h : F.spec_l1OwnRowsSpan a_list = some r) :
  Calls Tryd.prog 154 [v0p].toArray w fun e w' => ∃ v, e = .returned v ∧ VRep (RSlice (RSlice RSpan)) w' M r v ∧ BX No w w' := by
 obtain ⟨i120, hi120, hz120, hs120, hy120⟩ := info120
 obtain ⟨i121, hi121, hz121, hs121, hy121⟩ := info121
 have hC : Cx No w M w M := Cx.start hO (fun _ e => e.elim)
 clear _hG
 refine walk (N := 22) Tryd.func154 Z Tryd.ntmps154 Z (cw_seq (Zr (Zo Z Z Z (Za Z Z (Zn (Ze (cw_seq (Zr (Zo Z Z Z (ow_buildSlice0 (R := (RSlice RSpan)) (e := 121) Z (by kernel_rfl) hC fun p1 w1 M1 hr1 hb1 hl1 hC1 hM1 hat1 => Zo Z Z Z (Za Z Z (Zn (Ze (cw_seq (cw_seq (Zr (Zo Z Z Z (Za Z Z (Zn (Ze ?_))))))))))))))))))))
 replace h := bind_some h
 obtain ⟨lr1, hlr1, h⟩ := h
 refine cw_for hlr1 (fun s a w' => ∃ (M' : Nat → Prop) (v0c : Value), Fits 22 [(0, v0p), (3, v0c), (4, (.int .i64 s.2))] a ∧ Le w1 M1 w' M' ∧ Cx No w M w' M' ∧ OwnRow (RSlice RSpan) w.heap.size 121 w' M' s.1 v0c) ?_ ?_ ?_
 ·
  intro a ha
  exact ⟨M1, (.slice (some p1) 0 0), ha.sub ⟨Z, Z, Z, trivial⟩, Le.refl _ _, hC1, hr1⟩
 ·
  rintro ⟨y1, k1⟩ a w2 sr1 ⟨M2, v1, hF1, hl2, hC2, hw1⟩ hb2 hR1
  refine cw_at (E := [(0, v0p), (3, v1), (4, (.int .i64 k1))]) hF1 (cw_seq (cw_seq (Zr (Zo Z Z Z (Zm Z Z (Zo Z Z Z (Zm Z Z (Zo Z Z Z (ow_len Z Z (VRep.mono (hl1.trans hl2) h0) Tryd.underlying46 Z (Zo Z Z Z (ow_lss Z Z Z fun bb1 hbb1 => Zn (Ze ?_))))))))))))
  replace hb2 := Zc hb2
  rcases hb2 with ⟨hc1, hb2⟩ | ⟨hc1, hb2⟩
  ·
   obtain rfl := hbb1.trans hc1
   refine Zt Z (cw_skip (Ze (cw_seq (cw_block (Zr (Zo Z Z Z (Zm Z Z (Zo Z Z Z (ow_buildSlice0 (R := RSpan) (e := 120) Z (by kernel_rfl) hC2 fun p2 w3 M3 hr2 hb3 hl3 hC3 hM2 hat2 => ?_)))))))))
   have hr3 := hw1.go hb3 (fun _ _ e => e) hl3 hM2
   refine Zo Z Z Z (Zm Z Z (Zo Z Z Z (Zm Z Z ?_)))
   replace hb2 := bind_some hb2
   obtain ⟨x1, hx1, hb2⟩ := hb2
   have lz1 := ((hl1.trans hl2).trans hl3)
   refine Zo Z Z Z (Zx (R := (RSlice RSpan)) Z Z Z (VRep.mono lz1 h0) Tryd.underlying46 (Tryd.sizeOf121 _) hx1 fun p3 hp3 => Zo Z Z Z (Zl (R := (RSlice RSpan)) Z Z hp3 (Tryd.sizeOf121 _) (Tryd.isAgg121 _) fun v3 hv3 => ?_))
   replace hb2 := bind_some hb2
   obtain ⟨z1, hz1, hb2⟩ := hb2
   refine Zo Z Z Z (ow_appendCopy (R := RSpan) Z Z Z Z Tryd.underlying121 hi120 hz120 hs120 hy120 Z Z Z Z hv3 hz1 hC3 fun v4 w4 hw2 hb4 hl4 hC4 => ?_)
   have hr4 := hr3.no hb4
   obtain ⟨A1, c1, rfl, -⟩ := vslice_shape hw2
   refine Zo Z Z Z (ow_buildSlice (R := (RSlice RSpan)) (xs := [z1]) (cs := #[(.slice A1 z1.length c1)]) (e := 121) Z Z (by kernel_rfl) Z Z ⟨_, _, Z, hw2.cells, Z⟩ hC4 fun p4 w5 hw3 hb5 hl5 hC5 => ?_)
   have hr6 := hr4.no hb5
   replace hb2 := bind_some hb2
   obtain ⟨z2, hz2, hb2⟩ := hb2
   refine Zo Z Z Z (ow_append (R := (RSlice RSpan)) Z Z Z Z Tryd.underlying46 hi121 hz121 hs121 hy121 Z Z Z Z hr6 hw3 hz2 hC5 fun v5 w6 M4 hr8 hb6 hl6 hC6 hM3 hat3 => Zo Z Z Z (Za Z Z (Zn (ew_blockN (Ze (Zr (Zo Z Z Z (Zm Z Z (Zo Z Z Z (ow_add Z Z Z (Zo Z Z Z (Za Z Z (Zn ?_)))))))))))))
   have lz2 := ((((hl2.trans hl3).trans hl4).trans hl5).trans hl6)
   exact ew_nxt (z2, (W (k1 + 1))) hb2 fun a ha => ⟨M4, v5, (ha.sub ⟨Z, Z, Z, trivial⟩), lz2, hC6, hr8⟩
  ·
   obtain rfl := hbb1.trans hc1
   exact Zu Z (cw_exit (ew_thenX (ew_thenX (ew_blockX (ew_brk (y1, k1) hb2 fun a ha => ⟨M2, v1, (ha.sub ⟨Z, Z, Z, trivial⟩), hl2, hC2, hw1⟩)))))
 ·
  rintro ⟨y2, k2⟩ a w7 hlr2 ⟨M5, v6, hF2, hl7, hC7, hw4⟩
  subst hlr2
  refine ew_at (E := [(0, v0p), (3, v6), (4, (.int .i64 k2))]) hF2 (Ze (cw_seq (Zr (Zo Z Z Z (Zm Z Z (Zo Z Z Z (Za Z Z (Zn (Ze (Zy ?_))))))))))
  obtain rfl := sj h
  exact ew_ret (res1 Z (.tmp Z)) ⟨_, Z, (hw4.freezeBack hC7 hO), hC7.bx⟩

theorem wo_spec_l1OwnRowsSpan {w : World} {M : Nat → Prop} (_hG : ARep (RArr 4 RShape) w M shapes ⟨0, 0, none⟩) (hO : ∀ b, M b → b < w.heap.size) {v0p : Value} {a_list : List (List Span)} (h0 : VRep (RSlice (RSlice RSpan)) w M a_list v0p) {r : (List (List Span))} (h : F.spec_l1OwnRowsSpan a_list = some r) :
  Calls Tryd.prog 154 [v0p].toArray w fun e w' => ∃ v, e = .returned v ∧ (∃ M', OwnRow (RSlice RSpan) w.heap.size 121 w' M' r v ∧ Cx No w M w' M') ∧ BX No w w' := by
 obtain ⟨i120, hi120, hz120, hs120, hy120⟩ := info120
 obtain ⟨i121, hi121, hz121, hs121, hy121⟩ := info121
 have hC : Cx No w M w M := Cx.start hO (fun _ e => e.elim)
 clear _hG
 refine walk (N := 22) Tryd.func154 Z Tryd.ntmps154 Z (cw_seq (Zr (Zo Z Z Z (Za Z Z (Zn (Ze (cw_seq (Zr (Zo Z Z Z (ow_buildSlice0 (R := (RSlice RSpan)) (e := 121) Z (by kernel_rfl) hC fun p1 w1 M1 hr1 hb1 hl1 hC1 hM1 hat1 => Zo Z Z Z (Za Z Z (Zn (Ze (cw_seq (cw_seq (Zr (Zo Z Z Z (Za Z Z (Zn (Ze ?_))))))))))))))))))))
 replace h := bind_some h
 obtain ⟨lr1, hlr1, h⟩ := h
 refine cw_for hlr1 (fun s a w' => ∃ (M' : Nat → Prop) (v0c : Value), Fits 22 [(0, v0p), (3, v0c), (4, (.int .i64 s.2))] a ∧ Le w1 M1 w' M' ∧ Cx No w M w' M' ∧ OwnRow (RSlice RSpan) w.heap.size 121 w' M' s.1 v0c) ?_ ?_ ?_
 ·
  intro a ha
  exact ⟨M1, (.slice (some p1) 0 0), ha.sub ⟨Z, Z, Z, trivial⟩, Le.refl _ _, hC1, hr1⟩
 ·
  rintro ⟨y1, k1⟩ a w2 sr1 ⟨M2, v1, hF1, hl2, hC2, hw1⟩ hb2 hR1
  refine cw_at (E := [(0, v0p), (3, v1), (4, (.int .i64 k1))]) hF1 (cw_seq (cw_seq (Zr (Zo Z Z Z (Zm Z Z (Zo Z Z Z (Zm Z Z (Zo Z Z Z (ow_len Z Z (VRep.mono (hl1.trans hl2) h0) Tryd.underlying46 Z (Zo Z Z Z (ow_lss Z Z Z fun bb1 hbb1 => Zn (Ze ?_))))))))))))
  replace hb2 := Zc hb2
  rcases hb2 with ⟨hc1, hb2⟩ | ⟨hc1, hb2⟩
  ·
   obtain rfl := hbb1.trans hc1
   refine Zt Z (cw_skip (Ze (cw_seq (cw_block (Zr (Zo Z Z Z (Zm Z Z (Zo Z Z Z (ow_buildSlice0 (R := RSpan) (e := 120) Z (by kernel_rfl) hC2 fun p2 w3 M3 hr2 hb3 hl3 hC3 hM2 hat2 => ?_)))))))))
   have hr3 := hw1.go hb3 (fun _ _ e => e) hl3 hM2
   refine Zo Z Z Z (Zm Z Z (Zo Z Z Z (Zm Z Z ?_)))
   replace hb2 := bind_some hb2
   obtain ⟨x1, hx1, hb2⟩ := hb2
   have lz1 := ((hl1.trans hl2).trans hl3)
   refine Zo Z Z Z (Zx (R := (RSlice RSpan)) Z Z Z (VRep.mono lz1 h0) Tryd.underlying46 (Tryd.sizeOf121 _) hx1 fun p3 hp3 => Zo Z Z Z (Zl (R := (RSlice RSpan)) Z Z hp3 (Tryd.sizeOf121 _) (Tryd.isAgg121 _) fun v3 hv3 => ?_))
   replace hb2 := bind_some hb2
   obtain ⟨z1, hz1, hb2⟩ := hb2
   refine Zo Z Z Z (ow_appendCopy (R := RSpan) Z Z Z Z Tryd.underlying121 hi120 hz120 hs120 hy120 Z Z Z Z hv3 hz1 hC3 fun v4 w4 hw2 hb4 hl4 hC4 => ?_)
   have hr4 := hr3.no hb4
   obtain ⟨A1, c1, rfl, -⟩ := vslice_shape hw2
   refine Zo Z Z Z (ow_buildSlice (R := (RSlice RSpan)) (xs := [z1]) (cs := #[(.slice A1 z1.length c1)]) (e := 121) Z Z (by kernel_rfl) Z Z ⟨_, _, Z, hw2.cells, Z⟩ hC4 fun p4 w5 hw3 hb5 hl5 hC5 => ?_)
   have hr6 := hr4.no hb5
   replace hb2 := bind_some hb2
   obtain ⟨z2, hz2, hb2⟩ := hb2
   refine Zo Z Z Z (ow_append (R := (RSlice RSpan)) Z Z Z Z Tryd.underlying46 hi121 hz121 hs121 hy121 Z Z Z Z hr6 hw3 hz2 hC5 fun v5 w6 M4 hr8 hb6 hl6 hC6 hM3 hat3 => Zo Z Z Z (Za Z Z (Zn (ew_blockN (Ze (Zr (Zo Z Z Z (Zm Z Z (Zo Z Z Z (ow_add Z Z Z (Zo Z Z Z (Za Z Z (Zn ?_)))))))))))))
   have lz2 := ((((hl2.trans hl3).trans hl4).trans hl5).trans hl6)
   exact ew_nxt (z2, (W (k1 + 1))) hb2 fun a ha => ⟨M4, v5, (ha.sub ⟨Z, Z, Z, trivial⟩), lz2, hC6, hr8⟩
  ·
   obtain rfl := hbb1.trans hc1
   exact Zu Z (cw_exit (ew_thenX (ew_thenX (ew_blockX (ew_brk (y1, k1) hb2 fun a ha => ⟨M2, v1, (ha.sub ⟨Z, Z, Z, trivial⟩), hl2, hC2, hw1⟩)))))
 ·
  rintro ⟨y2, k2⟩ a w7 hlr2 ⟨M5, v6, hF2, hl7, hC7, hw4⟩
  subst hlr2
  refine ew_at (E := [(0, v0p), (3, v6), (4, (.int .i64 k2))]) hF2 (Ze (cw_seq (Zr (Zo Z Z Z (Zm Z Z (Zo Z Z Z (Za Z Z (Zn (Ze (Zy ?_))))))))))
  obtain rfl := sj h
  exact ew_ret (res1 Z (.tmp Z)) ⟨_, Z, ⟨M5, hw4, hC7⟩, hC7.bx⟩

theorem w_spec_l1OwnBox {w : World} {M : Nat → Prop} (hG : ARep (RArr 4 RShape) w M shapes ⟨0, 0, none⟩) (hO : ∀ b, M b → b < w.heap.size) {v0p : Value} {a_x : Box} (h0 : VRep RBox w M a_x v0p) {r : Box} (h : F.spec_l1OwnBox a_x = some r) :
  Calls Tryd.prog 96 [v0p].toArray w fun e w' => ∃ v, e = .returned v ∧ VRep RBox w' M r v ∧ BX No w w' := by
 have hC : Cx No w M w M := Cx.start hO (fun _ e => e.elim)
 refine walk (N := 10) Tryd.func96 Z Tryd.ntmps96 Z (cw_seq (Zr (Zo Z Z Z (ow_box (R := RBox) Z Z h0 hC fun p1 w1 hp1 hb1 hl1 hC1 => Zo Z Z Z (ow_alloc Z (Tryd.zeroValue48 _) hC1 fun g1 w2 hg1 hg2 ho1 hb2 hl2 hC2 => ?_)))))
 have hm1 : (Add g1 M) g1 := .inl Z
 refine Zn (Ze (cw_seq (Zr (Zo Z Z Z (Zl (R := RBox) Z Z (ARep.mono hl2 hp1) (Tryd.sizeOf48 _) (Tryd.isAgg48 _) fun v1 hv1 => Zo Z Z Z (ow_alloc Z (Tryd.zeroValue48 _) hC2 fun g2 w3 hg3 hg4 ho2 hb3 hl3 hC3 => ?_))))))
 have hn1 := Nat.ne_of_lt (Nat.lt_of_lt_of_le ho1.lt hg3)
 have ho3 := ho1.no hb3
 have hm2 : (Add g2 (Add g1 M)) g1 := .inr hm1
 have hm3 : (Add g2 (Add g1 M)) g2 := .inl Z
 obtain ⟨A1, c1, rfl, hw1⟩ := open_Box hv1
 refine lw_op0 Z Z (ow_store (X := No) (us := [(.slice A1 a_x.Sides.length c1)]) (cs' := #[(.slice A1 a_x.Sides.length c1)]) Z Z Z Z ho2 (Tryd.sizeOf48 _) Z Z Z Z hm3 (.inl hg4) Z hC3 fun w4 ho4 hb4 hl4 hC4 => ?_)
 have ho5 := ho3.go hb4 (fun e => hn1 e)
 refine Zn (Ze (cw_seq (Zr (Zo Z Z Z (Zf Z Z Tryd.underlying48 Z (Tryd.sizeOf46 _) ?_)))))
 have lz1 := ((hl2.trans hl3).trans hl4)
 refine Zo Z Z Z (Zl (R := (RSlice (RSlice RSpan))) Z Z (ARep.mono lz1 (hp1.fld fld_Box_Sides)) (Tryd.sizeOf46 _) (Tryd.isAgg46 _) fun v2 hv2 => ?_)
 replace h := bind_some h
 obtain ⟨x1, hx1, h⟩ := h
 have lz2 := (((hl1.trans hl2).trans hl3).trans hl4)
 refine Zo Z Z Z (Zk Z Z Tryd.call154 (w_spec_l1OwnRowsSpan (hG.mono lz2) hC4.old hv2 hx1) fun v3 w5 hv3 => ?_)
 obtain ⟨hv3, hb5⟩ := hv3
 have hC5 := hC4.no hb5
 have ho6 := ho5.no hb5
 have ho7 := ho4.no hb5
 refine Zo Z Z Z (Zf Z Z Tryd.underlying48 Z (Tryd.sizeOf46 _) ?_)
 obtain ⟨A2, c2, rfl, -⟩ := vslice_shape hv3
 refine lw_op0 Z Z (ow_store (X := No) (us := [(.slice A2 x1.length c2)]) (cs' := #[(.slice A2 x1.length c2)]) Z Z Z Z ho7 (Tryd.sizeOf46 _) Z Z Z Z hm3 (.inl hg4) Z hC5 fun w6 ho8 hb6 hl6 hC6 => ?_)
 have ho9 := ho6.go hb6 (fun e => hn1 e)
 refine Zn (Ze (cw_seq (Zr (Zo Z Z Z (ow_loadOwnA Z Z Z ho8 (Tryd.isAgg48 _) (Tryd.sizeOf48 _) Z (lw_op0 Z Z (ow_store (X := No) (us := [(.slice A2 x1.length c2)]) (cs' := #[(.slice A2 x1.length c2)]) Z Z Z Z ho9 (Tryd.sizeOf48 _) Z Z Z Z hm2 (.inl hg2) Z hC6 fun w7 ho10 hb7 hl7 hC7 => Zn (Ze (Zy ?_)))))))))
 have hw3 : VRep RBox w7 (Add g2 (Add g1 M)) ({ Sides := x1 } : Box) (.agg #[(.slice A2 x1.length c2)]) := shut_Box (VRep.mono (hl6.trans hl7) hv3)
 obtain rfl := sj h
 exact ew_ret (res1 Z (.cell Z (own_loadVarA ho10 (Tryd.isAgg48 _) (Tryd.sizeOf48 _) Z))) ⟨_, Z, (hw3.mono hC7.back), hC7.bx⟩

theorem w_spec_l10Meet {w : World} {M : Nat → Prop} (hG : ARep (RArr 4 RShape) w M shapes ⟨0, 0, none⟩) (hO : ∀ b, M b → b < w.heap.size) {v0p : Value} {a_a : Box} (h0 : VRep RBox w M a_a v0p) {v1p : Value} {a_b : Box} (h1 : VRep RBox w M a_b v1p) {r : Box} (h : F.spec_l10Meet a_a a_b = some r) :
  Calls Tryd.prog 97 [v0p, v1p].toArray w fun e w' => ∃ v, e = .returned v ∧ VRep RBox w' M r v ∧ BX No w w' := by
 obtain ⟨i121, hi121, hz121, hs121, hy121⟩ := info121
 have hC : Cx No w M w M := Cx.start hO (fun _ e => e.elim)
 refine walk (N := 29) Tryd.func97 Z Tryd.ntmps97 Z (cw_seq (Zr (Zo Z Z Z (ow_box (R := RBox) Z Z h0 hC fun p1 w1 hp1 hb1 hl1 hC1 => Zo Z Z Z (ow_box (R := RBox) Z Z (VRep.mono hl1 h1) hC1 fun p2 w2 hp2 hb2 hl2 hC2 => Zo Z Z Z (ow_alloc Z (Tryd.zeroValue48 _) hC2 fun g1 w3 hg1 hg2 ho1 hb3 hl3 hC3 => ?_))))))
 have hm1 : (Add g1 M) g1 := .inl Z
 refine Zn (Ze (cw_seq (Zr (Zo Z Z Z (ow_build (v := .agg #[(.slice none 0 0)]) Z Z (by kernel_rfl) (Zo Z Z Z (ow_alloc Z (Tryd.zeroValue48 _) hC3 fun g2 w4 hg3 hg4 ho2 hb4 hl4 hC4 => ?_)))))))
 have hn1 := Nat.ne_of_lt (Nat.lt_of_lt_of_le ho1.lt hg3)
 have ho3 := ho1.no hb4
 have hm2 : (Add g2 (Add g1 M)) g1 := .inr hm1
 have hm3 : (Add g2 (Add g1 M)) g2 := .inl Z
 refine lw_op0 Z Z (ow_store (X := No) (us := [(.slice none 0 0)]) (cs' := #[(.slice none 0 0)]) Z Z Z Z ho2 (Tryd.sizeOf48 _) Z Z Z Z hm3 (.inl hg4) Z hC4 fun w5 ho4 hb5 hl5 hC5 => ?_)
 have ho5 := ho3.go hb5 (fun e => hn1 e)
 refine Zn (Ze (cw_seq (cw_seq (Zr (Zo Z Z Z (Za Z Z (Zn (Ze ?_))))))))
 have hr1 : OwnRow (RSlice RSpan) w.heap.size 121 w5 (Add g2 (Add g1 M)) ([] : List (List Span)) (.slice none 0 0) := ownrow_nil
 replace h := bind_some h
 obtain ⟨lr1, hlr1, h⟩ := h
 refine cw_for hlr1 (fun s a w' => ∃ (M' : Nat → Prop) (v1c : Value), Fits 29 [(2, (.pointer (some p1))), (3, (.pointer (some p2))), (4, (.pointer (some ⟨g1, 0, none⟩))), (5, (.pointer (some ⟨g2, 0, none⟩))), (6, (.int .i64 s.1))] a ∧ Le w5 (Add g2 (Add g1 M)) w' M' ∧ Cx No w M w' M' ∧ OwnRow (RSlice RSpan) w.heap.size 121 w' M' s.2 v1c ∧ Own w' g1 48 #[(.slice none 0 0)] ∧ M' g1 ∧ Own w' g2 48 #[v1c] ∧ M' g2) ?_ ?_ ?_
 ·
  intro a ha
  exact ⟨(Add g2 (Add g1 M)), (.slice none 0 0), ha.sub ⟨Z, Z, Z, Z, Z, trivial⟩, Le.refl _ _, hC5, hr1, ho5, hm2, ho4, hm3⟩
 ·
  rintro ⟨k1, y1⟩ a w6 sr1 ⟨M1, v2, hF1, hl6, hC6, hw2, ho6, hm4, ho7, hm5⟩ hb6 hR1
  refine cw_at (E := [(2, (.pointer (some p1))), (3, (.pointer (some p2))), (4, (.pointer (some ⟨g1, 0, none⟩))), (5, (.pointer (some ⟨g2, 0, none⟩))), (6, (.int .i64 k1))]) hF1 (cw_seq (cw_seq (Zr (Zo Z Z Z (Zm Z Z (Zo Z Z Z (ow_lss Z Z Z fun bb1 hbb1 => Zn (Ze ?_))))))))
  replace hb6 := Zc hb6
  rcases hb6 with ⟨hc1, hb6⟩ | ⟨hc1, hb6⟩
  ·
   obtain rfl := hbb1.trans hc1
   refine Zt Z (cw_skip (Ze (cw_seq (cw_block ?_))))
   replace hb6 := bind_some hb6
   obtain ⟨x1, hx1, hb6⟩ := hb6
   replace hb6 := bind_some hb6
   obtain ⟨x2, hx2, hb6⟩ := hb6
   replace hb6 := bind_some hb6
   obtain ⟨x3, hx3, hb6⟩ := hb6
   have lz1 := (((((hl1.trans hl2).trans hl3).trans hl4).trans hl5).trans hl6)
   have lz2 := ((((hl2.trans hl3).trans hl4).trans hl5).trans hl6)
   have lz3 := (((hl3.trans hl4).trans hl5).trans hl6)
   refine cw_sub (E' := [(2, (.pointer (some p1))), (3, (.pointer (some p2))), (4, (.pointer (some ⟨g1, 0, none⟩))), (5, (.pointer (some ⟨g2, 0, none⟩))), (6, (.int .i64 k1))]) ⟨Z, Z, Z, Z, Z, trivial⟩ (cw_drawQ 14 [PEq (.pointer (some ⟨g2, 0, none⟩)), PEq v2, PA (RSlice (RSlice RSpan)) M1 a_a.Sides, PV (RSlice (RSlice RSpan)) M1 a_a.Sides, PEq (.int .i64 k1), PA (RSlice RSpan) M1 x1, PV (RSlice RSpan) M1 x1, PA (RSlice (RSlice RSpan)) M1 a_b.Sides, PV (RSlice (RSlice RSpan)) M1 a_b.Sides, PEq (.int .i64 k1), PA (RSlice RSpan) M1 x2, PV (RSlice RSpan) M1 x2, PV (RSlice RSpan) M1 x3, PV (RSlice (RSlice RSpan)) M1 [x3]] (by kernel_rfl) Z (by kernel_rfl) ⟨Zq, Zq, PA.mono _ _ _, PV.mono _ _ _, Zq, PA.mono _ _ _, PV.mono _ _ _, PA.mono _ _ _, PV.mono _ _ _, Zq, PA.mono _ _ _, PV.mono _ _ _, PV.mono _ _ _, PV.mono _ _ _, trivial⟩ ⟨?_, ?_, ?_, ?_, ?_, ?_, ?_, ?_, ?_, ?_, ?_, ?_, ?_, ?_, trivial⟩ ?_)
   ·
    intro w9 D hS1 hd1
    exact Zs (E' := [(5, (.pointer (some ⟨g2, 0, none⟩)))]) ⟨Z, trivial⟩ (Zp Z (Zf Z Z Tryd.underlying48 Z (Tryd.sizeOf46 _) Zb))
   ·
    intro w10 D hS2 hd2
    have ho15 := ho7.no hS2
    exact Zs (E' := [(12, (.pointer (some ⟨g2, 0, none⟩)))]) ⟨(dpE hd2 0 Z Z), trivial⟩ (Zp Z (ow_loadOwn1 Z Z Z ho15 (Tryd.isAgg46 _) Z Zb))
   ·
    intro w11 D hS3 hd3
    have hl11 := Le.no M1 hS3
    exact Zs (E' := [(2, (.pointer (some p1)))]) ⟨Z, trivial⟩ (Zp Z (Zf Z Z Tryd.underlying48 Z (Tryd.sizeOf46 _) ⟨BX.refl _ _, ⟨_, Z, (ARep.mono (lz2.trans hl11) (hp1.fld fld_Box_Sides))⟩⟩))
   ·
    intro w12 D hS4 hd4
    have d2 : PA (RSlice (RSlice RSpan)) M1 a_a.Sides (D 2) w12 := dpA hd4 2 Z
    obtain ⟨p6, e1, ha1⟩ := d2
    exact Zs (E' := [(14, (.pointer (some p6)))]) ⟨(congrArg some e1), trivial⟩ (Zp Z (Zl (R := (RSlice (RSlice RSpan))) Z Z ha1 (Tryd.sizeOf46 _) (Tryd.isAgg46 _) fun v8 hv8 => ⟨BX.refl _ _, hv8⟩))
   ·
    intro w13 D hS5 hd5
    exact Zs (E' := [(6, (.int .i64 k1))]) ⟨Z, trivial⟩ (Zp Z (Zm Z Z Zb))
   ·
    intro w14 D hS6 hd6
    have d3 : PV (RSlice (RSlice RSpan)) M1 a_a.Sides (D 3) w14 := dpA hd6 3 Z
    generalize hq1 : (D 3) = v9 at d3
    exact Zs (E' := [(15, v9), (16, (.int .i64 k1))]) ⟨(congrArg some hq1), (dpE hd6 4 Z Z), trivial⟩ (Zp Z (Zx (R := (RSlice RSpan)) Z Z Z d3 Tryd.underlying46 (Tryd.sizeOf121 _) hx1 fun p7 hp7 => ⟨BX.refl _ _, ⟨_, Z, hp7⟩⟩))
   ·
    intro w15 D hS7 hd7
    have d5 : PA (RSlice RSpan) M1 x1 (D 5) w15 := dpA hd7 5 Z
    obtain ⟨p8, e2, ha2⟩ := d5
    exact Zs (E' := [(17, (.pointer (some p8)))]) ⟨(congrArg some e2), trivial⟩ (Zp Z (Zl (R := (RSlice RSpan)) Z Z ha2 (Tryd.sizeOf121 _) (Tryd.isAgg121 _) fun v10 hv10 => ⟨BX.refl _ _, hv10⟩))
   ·
    intro w16 D hS8 hd8
    have hl16 := Le.no M1 hS8
    exact Zs (E' := [(3, (.pointer (some p2)))]) ⟨Z, trivial⟩ (Zp Z (Zf Z Z Tryd.underlying48 Z (Tryd.sizeOf46 _) ⟨BX.refl _ _, ⟨_, Z, (ARep.mono (lz3.trans hl16) (hp2.fld fld_Box_Sides))⟩⟩))
   ·
    intro w17 D hS9 hd9
    have d6 : PA (RSlice (RSlice RSpan)) M1 a_b.Sides (D 7) w17 := dpA hd9 7 Z
    obtain ⟨p9, e3, ha3⟩ := d6
    exact Zs (E' := [(19, (.pointer (some p9)))]) ⟨(congrArg some e3), trivial⟩ (Zp Z (Zl (R := (RSlice (RSlice RSpan))) Z Z ha3 (Tryd.sizeOf46 _) (Tryd.isAgg46 _) fun v11 hv11 => ⟨BX.refl _ _, hv11⟩))
   ·
    intro w18 D hS10 hd10
    exact Zs (E' := [(6, (.int .i64 k1))]) ⟨Z, trivial⟩ (Zp Z (Zm Z Z Zb))
   ·
    intro w19 D hS11 hd11
    have d7 : PV (RSlice (RSlice RSpan)) M1 a_b.Sides (D 8) w19 := dpA hd11 8 Z
    generalize hq2 : (D 8) = v12 at d7
    exact Zs (E' := [(20, v12), (21, (.int .i64 k1))]) ⟨(congrArg some hq2), (dpE hd11 9 Z Z), trivial⟩ (Zp Z (Zx (R := (RSlice RSpan)) Z Z Z d7 Tryd.underlying46 (Tryd.sizeOf121 _) hx2 fun p10 hp10 => ⟨BX.refl _ _, ⟨_, Z, hp10⟩⟩))
   ·
    intro w20 D hS12 hd12
    have d9 : PA (RSlice RSpan) M1 x2 (D 10) w20 := dpA hd12 10 Z
    obtain ⟨p11, e4, ha4⟩ := d9
    exact Zs (E' := [(22, (.pointer (some p11)))]) ⟨(congrArg some e4), trivial⟩ (Zp Z (Zl (R := (RSlice RSpan)) Z Z ha4 (Tryd.sizeOf121 _) (Tryd.isAgg121 _) fun v13 hv13 => ⟨BX.refl _ _, hv13⟩))
   ·
    intro w21 D hS13 hd13
    have hl21 := Le.no M1 hS13
    have hC21 := hC6.no hS13
    have d10 : PV (RSlice RSpan) M1 x1 (D 6) w21 := dpA hd13 6 Z
    have d11 : PV (RSlice RSpan) M1 x2 (D 11) w21 := dpA hd13 11 Z
    generalize hq3 : (D 6) = v14 at d10
    generalize hq4 : (D 11) = v15 at d11
    refine Zs (E' := [(18, v14), (23, v15)]) ⟨(congrArg some hq3), (congrArg some hq4), trivial⟩ (Zp Z (Zk Z Z Tryd.call103 (w_spec_l2Meet (hG.mono (lz1.trans hl21)) hC21.old d10 d11 hx3) fun v16 w22 hv16 => ?_))
    obtain ⟨hv16, hb9⟩ := hv16
    exact ⟨hb9, hv16⟩
   ·
    intro w23 D hS14 hd14
    have hC23 := hC6.no hS14
    have d12 : PV (RSlice RSpan) M1 x3 (D 12) w23 := dpA hd14 12 Z
    generalize hq5 : (D 12) = v17 at d12
    refine Zs (E' := [(24, v17)]) ⟨(congrArg some hq5), trivial⟩ ?_
    obtain ⟨A2, c2, rfl, -⟩ := vslice_shape d12
    exact Zp Z (ow_buildSlice (R := (RSlice RSpan)) (xs := [x3]) (cs := #[(.slice A2 x3.length c2)]) (e := 121) Z Z (by kernel_rfl) Z Z ⟨_, _, Z, d12.cells, Z⟩ hC23 fun p12 w24 hw4 hb10 hl24 hC24 => ⟨hb10, hw4⟩)
   ·
    intro w25 D hS15 hd15
    have d26 : PV (RSlice (RSlice RSpan)) M1 [x3] (D 13) w25 := dpA hd15 13 Z
    have hl25 := Le.no M1 hS15
    have hC25 := hC6.no hS15
    have ho44 := ho6.no hS15
    have ho45 := ho7.no hS15
    have hr20 := hw2.no hS15
    generalize hq6 : (D 13) = v18 at d26
    refine lw_sub (E' := [(13, v2), (25, v18), (2, (.pointer (some p1))), (3, (.pointer (some p2))), (4, (.pointer (some ⟨g1, 0, none⟩))), (5, (.pointer (some ⟨g2, 0, none⟩))), (6, (.int .i64 k1))]) ⟨(dpE hd15 1 Z Z), (congrArg some hq6), Z, Z, Z, Z, Z, trivial⟩ ?_
    replace hb6 := bind_some hb6
    obtain ⟨z1, hz1, hb6⟩ := hb6
    refine Zo Z Z Z (ow_append (R := (RSlice RSpan)) Z Z Z Z Tryd.underlying46 hi121 hz121 hs121 hy121 Z Z Z Z hr20 d26 hz1 hC25 fun v19 w26 M2 hr21 hb11 hl26 hC26 hM1 hat1 => ?_)
    have ho46 := ho44.go hb11 (fun e => (orow_ne hr20 ho44 (by decide)) e)
    have hm6 := hM1 _ hm4
    have ho47 := ho45.go hb11 (fun e => (orow_ne hr20 ho45 (by decide)) e)
    have hm7 := hM1 _ hm5
    refine Zo Z Z Z (Zf Z Z Tryd.underlying48 Z (Tryd.sizeOf46 _) ?_)
    obtain ⟨A3, c3, rfl⟩ := hr21.len
    refine lw_op0 Z Z (ow_store (X := No) (us := [(.slice A3 z1.length c3)]) (cs' := #[(.slice A3 z1.length c3)]) Z Z Z Z ho47 (Tryd.sizeOf46 _) Z Z Z Z hm7 (.inl hg4) Z hC26 fun w27 ho48 hb12 hl27 hC27 => ?_)
    have ho49 := ho46.go hb12 (fun e => hn1 e)
    have hr22 := hr21.go hb12 (fun k hk e => (orow_ne hr21 ho47 (by decide)) (hk.trans (congrArg some e))) hl27 (fun _ h => h)
    refine Zn (ew_blockN (Ze (Zr (Zo Z Z Z (Zm Z Z (Zo Z Z Z (ow_add Z Z Z (Zo Z Z Z (Za Z Z (Zn ?_))))))))))
    have lz4 := (((hl6.trans hl25).trans hl26).trans hl27)
    exact ew_nxt ((W (k1 + 1)), z1) hb6 fun a ha => ⟨M2, (.slice A3 z1.length c3), (ha.sub ⟨Z, Z, Z, Z, Z, trivial⟩), lz4, hC27, hr22, ho49, hm6, ho48, hm7⟩
  ·
   obtain rfl := hbb1.trans hc1
   exact Zu Z (cw_exit (ew_thenX (ew_thenX (ew_blockX (ew_brk (k1, y1) hb6 fun a ha => ⟨M1, v2, (ha.sub ⟨Z, Z, Z, Z, Z, trivial⟩), hl6, hC6, hw2, ho6, hm4, ho7, hm5⟩)))))
 ·
  rintro ⟨k2, y2⟩ a w28 hlr2 ⟨M3, v21, hF2, hl28, hC28, hw5, ho50, hm8, ho51, hm9⟩
  subst hlr2
  refine ew_at (E := [(2, (.pointer (some p1))), (3, (.pointer (some p2))), (4, (.pointer (some ⟨g1, 0, none⟩))), (5, (.pointer (some ⟨g2, 0, none⟩))), (6, (.int .i64 k2))]) hF2 (Ze (cw_seq (Zr (Zo Z Z Z (ow_loadOwnA Z Z Z ho51 (Tryd.isAgg48 _) (Tryd.sizeOf48 _) Z ?_)))))
  have hw6 := hw5.freezeDel
  have hC29 := hw5.cxDel hC28 (fun _ e => e.elim) hO
  have hm10 : (Del v21 M3) g1 := ⟨hm8, fun e => (orow_ne hw5 ho50 (by decide)) e⟩
  obtain ⟨A4, c4, rfl, -⟩ := vslice_shape hw6
  refine lw_op0 Z Z (ow_store (X := No) (us := [(.slice A4 y2.length c4)]) (cs' := #[(.slice A4 y2.length c4)]) Z Z Z Z ho50 (Tryd.sizeOf48 _) Z Z Z Z hm10 (.inl hg2) Z hC29 fun w29 ho52 hb13 hl30 hC30 => Zn (Ze (Zy ?_)))
  have hw8 : VRep RBox w29 (Del (.slice A4 y2.length c4) M3) ({ Sides := y2 } : Box) (.agg #[(.slice A4 y2.length c4)]) := shut_Box (VRep.mono hl30 hw6)
  obtain rfl := sj h
  exact ew_ret (res1 Z (.cell Z (own_loadVarA ho52 (Tryd.isAgg48 _) (Tryd.sizeOf48 _) Z))) ⟨_, Z, (hw8.mono hC30.back), hC30.bx⟩

theorem w_spec_BoxMeet {w : World} {M : Nat → Prop} (hG : ARep (RArr 4 RShape) w M shapes ⟨0, 0, none⟩) (hO : ∀ b, M b → b < w.heap.size) {v0p : Value} {a_a : Box} (h0 : VRep RBox w M a_a v0p) {v1p : Value} {a_b : Box} (h1 : VRep RBox w M a_b v1p) {r : Box} (h : F.spec_BoxMeet a_a a_b = some r) :
  Calls Tryd.prog 30 [v0p, v1p].toArray w fun e w' => ∃ v, e = .returned v ∧ VRep RBox w' M r v ∧ BX No w w' := by
 have hC : Cx No w M w M := Cx.start hO (fun _ e => e.elim)
 refine walk (N := 28) Tryd.func30 Z Tryd.ntmps30 Z (cw_seq (Zr ?_))
 obtain ⟨A1, c1, rfl, hw1⟩ := open_Box h0
 refine Zo Z Z Z (ow_boxOwn Z Z hC fun g1 w1 hg1 hg2 ho1 hb1 hl1 hC1 => ?_)
 have hm1 : (Add g1 M) g1 := .inl Z
 obtain ⟨A2, c2, rfl, hw2⟩ := open_Box h1
 refine Zo Z Z Z (ow_boxOwn Z Z hC1 fun g2 w2 hg3 hg4 ho2 hb2 hl2 hC2 => ?_)
 have hn1 := Nat.ne_of_lt (Nat.lt_of_lt_of_le ho1.lt hg3)
 have ho3 := ho1.no hb2
 have hm2 : (Add g2 (Add g1 M)) g1 := .inr hm1
 have hm3 : (Add g2 (Add g1 M)) g2 := .inl Z
 refine Zo Z Z Z (ow_alloc Z (Tryd.zeroValue48 _) hC2 fun g3 w3 hg5 hg6 ho4 hb3 hl3 hC3 => ?_)
 have hn2 := Nat.ne_of_lt (Nat.lt_of_lt_of_le ho3.lt hg5)
 have ho5 := ho3.no hb3
 have hm4 : (Add g3 (Add g2 (Add g1 M))) g1 := .inr hm2
 have hn3 := Nat.ne_of_lt (Nat.lt_of_lt_of_le ho2.lt hg5)
 have ho6 := ho2.no hb3
 have hm5 : (Add g3 (Add g2 (Add g1 M))) g2 := .inr hm3
 have hm6 : (Add g3 (Add g2 (Add g1 M))) g3 := .inl Z
 refine Zn (Ze (cw_seq (Zr (Zo Z Z Z (ow_loadOwnA Z Z Z ho5 (Tryd.isAgg48 _) (Tryd.sizeOf48 _) Z ?_)))))
 have lz1 := ((hl1.trans hl2).trans hl3)
 have hw3 : VRep RBox w3 (Add g3 (Add g2 (Add g1 M))) ({ Sides := a_a.Sides } : Box) (.agg #[(.slice A1 a_a.Sides.length c1)]) := shut_Box (VRep.mono lz1 hw1)
 replace h := bind_some h
 obtain ⟨x1, hx1, h⟩ := h
 refine Zo Z Z Z (Zk Z Z Tryd.call96 (w_spec_l1OwnBox (hG.mono lz1) hC3.old hw3 hx1) fun v1 w4 hv1 => ?_)
 obtain ⟨hv1, hb4⟩ := hv1
 have hl4 := Le.no (Add g3 (Add g2 (Add g1 M))) hb4
 have hC4 := hC3.no hb4
 have ho7 := ho5.no hb4
 have ho8 := ho6.no hb4
 have ho9 := ho4.no hb4
 obtain ⟨A3, c3, rfl, hw4⟩ := open_Box hv1
 refine lw_op0 Z Z (ow_store (X := No) (us := [(.slice A3 x1.Sides.length c3)]) (cs' := #[(.slice A3 x1.Sides.length c3)]) Z Z Z Z ho7 (Tryd.sizeOf48 _) Z Z Z Z hm4 (.inl hg2) Z hC4 fun w5 ho10 hb5 hl5 hC5 => ?_)
 have ho11 := ho8.go hb5 (fun e => hn1 e.symm)
 have ho12 := ho9.go hb5 (fun e => hn2 e.symm)
 refine Zn (Ze (cw_seq (Zr (Zo Z Z Z (ow_loadOwnA Z Z Z ho11 (Tryd.isAgg48 _) (Tryd.sizeOf48 _) Z ?_)))))
 have lz2 := ((lz1.trans hl4).trans hl5)
 have hw5 : VRep RBox w5 (Add g3 (Add g2 (Add g1 M))) ({ Sides := a_b.Sides } : Box) (.agg #[(.slice A2 a_b.Sides.length c2)]) := shut_Box (VRep.mono lz2 hw2)
 replace h := bind_some h
 obtain ⟨x2, hx2, h⟩ := h
 refine Zo Z Z Z (Zk Z Z Tryd.call96 (w_spec_l1OwnBox (hG.mono lz2) hC5.old hw5 hx2) fun v2 w6 hv2 => ?_)
 obtain ⟨hv2, hb6⟩ := hv2
 have hl6 := Le.no (Add g3 (Add g2 (Add g1 M))) hb6
 have hC6 := hC5.no hb6
 have ho13 := ho10.no hb6
 have ho14 := ho11.no hb6
 have ho15 := ho12.no hb6
 obtain ⟨A4, c4, rfl, hw6⟩ := open_Box hv2
 refine lw_op0 Z Z (ow_store (X := No) (us := [(.slice A4 x2.Sides.length c4)]) (cs' := #[(.slice A4 x2.Sides.length c4)]) Z Z Z Z ho14 (Tryd.sizeOf48 _) Z Z Z Z hm5 (.inl hg4) Z hC6 fun w7 ho16 hb7 hl7 hC7 => ?_)
 have ho17 := ho13.go hb7 (fun e => hn1 e)
 have ho18 := ho15.go hb7 (fun e => hn3 e.symm)
 refine Zn (Ze (cw_seq (cw_seq (Zr (Zo Z Z Z (ow_loadOwnA Z Z Z ho17 (Tryd.isAgg48 _) (Tryd.sizeOf48 _) Z ?_))))))
 have lz3 := ((hl5.trans hl6).trans hl7)
 have hw7 : VRep RBox w7 (Add g3 (Add g2 (Add g1 M))) ({ Sides := x1.Sides } : Box) (.agg #[(.slice A3 x1.Sides.length c3)]) := shut_Box (VRep.mono lz3 hw4)
 replace h := bind_some h
 obtain ⟨x3, hx3, h⟩ := h
 have lz4 := ((lz2.trans hl6).trans hl7)
 refine Zo Z Z Z (Zk Z Z Tryd.call71 (w_spec_BoxValid (hG.mono lz4) hC7.old hw7 hx3) fun v3 w8 hv3 => ?_)
 obtain ⟨hv3, hb8⟩ := hv3
 have hl8 := Le.no (Add g3 (Add g2 (Add g1 M))) hb8
 have hC8 := hC7.no hb8
 have ho19 := ho17.no hb8
 have ho20 := ho16.no hb8
 have ho21 := ho18.no hb8
 obtain rfl := vbool_eq hv3
 refine Zo Z Z Z (ow_not Z Z (Zo Z Z Z (Zm Z Z ?_)))
 replace h := Zc h
 rcases h with ⟨hc1, h⟩ | ⟨hc1, h⟩
 ·
  subst hc1
  refine lw_on Z Z Z Z Z Z (ow_loadOwnA Z Z Z ho20 (Tryd.isAgg48 _) (Tryd.sizeOf48 _) Z ?_)
  have hw8 : VRep RBox w8 (Add g3 (Add g2 (Add g1 M))) ({ Sides := x2.Sides } : Box) (.agg #[(.slice A4 x2.Sides.length c4)]) := shut_Box (VRep.mono (hl7.trans hl8) hw6)
  replace h := bind_some h
  obtain ⟨x4, hx4, h⟩ := h
  refine lw_on Z Z Z Z Z Z (Zk Z Z Tryd.call71 (w_spec_BoxValid (hG.mono (lz4.trans hl8)) hC8.old hw8 hx4) fun v4 w9 hv4 => ?_)
  obtain ⟨hv4, hb9⟩ := hv4
  have hl9 := Le.no (Add g3 (Add g2 (Add g1 M))) hb9
  have hC9 := hC8.no hb9
  have ho22 := ho19.no hb9
  have ho23 := ho20.no hb9
  have ho24 := ho21.no hb9
  obtain rfl := vbool_eq hv4
  refine lw_on Z Z Z Z Z Z (ow_not Z Z (Zo Z Z Z (ow_pickF Z Z Z (Zo Z Z Z (Zm Z Z ?_)))))
  replace h := Zc h
  rcases h with ⟨hc2, h⟩ | ⟨hc2, h⟩
  ·
   subst hc2
   refine lw_on Z Z Z Z Z Z (ow_loadOwnA Z Z Z ho22 (Tryd.isAgg48 _) (Tryd.sizeOf48 _) Z ?_)
   have lz5 := ((lz3.trans hl8).trans hl9)
   have hw9 : VRep RBox w9 (Add g3 (Add g2 (Add g1 M))) ({ Sides := x1.Sides } : Box) (.agg #[(.slice A3 x1.Sides.length c3)]) := shut_Box (VRep.mono lz5 hw4)
   refine lw_on Z Z Z Z Z Z (ow_loadOwnA Z Z Z ho23 (Tryd.isAgg48 _) (Tryd.sizeOf48 _) Z ?_)
   have lz6 := ((hl7.trans hl8).trans hl9)
   have hw10 : VRep RBox w9 (Add g3 (Add g2 (Add g1 M))) ({ Sides := x2.Sides } : Box) (.agg #[(.slice A4 x2.Sides.length c4)]) := shut_Box (VRep.mono lz6 hw6)
   replace h := bind_some h
   obtain ⟨x5, hx5, h⟩ := h
   have lz7 := ((lz4.trans hl8).trans hl9)
   refine lw_on Z Z Z Z Z Z (Zk Z Z Tryd.call97 (w_spec_l10Meet (hG.mono lz7) hC9.old hw9 hw10 hx5) fun v5 w10 hv5 => ?_)
   obtain ⟨hv5, hb10⟩ := hv5
   have hl10 := Le.no (Add g3 (Add g2 (Add g1 M))) hb10
   have hC10 := hC9.no hb10
   have ho25 := ho22.no hb10
   have ho26 := ho23.no hb10
   have ho27 := ho24.no hb10
   replace h := bind_some h
   obtain ⟨x6, hx6, h⟩ := h
   refine lw_on Z Z Z Z Z Z (Zk Z Z Tryd.call71 (w_spec_BoxValid (hG.mono (lz7.trans hl10)) hC10.old hv5 hx6) fun v6 w11 hv6 => ?_)
   obtain ⟨hv6, hb11⟩ := hv6
   have hl11 := Le.no (Add g3 (Add g2 (Add g1 M))) hb11
   have hC11 := hC10.no hb11
   have ho28 := ho25.no hb11
   have ho29 := ho26.no hb11
   have ho30 := ho27.no hb11
   obtain rfl := vbool_eq hv6
   refine lw_on Z Z Z Z Z Z (ow_not Z Z (Zo Z Z Z (ow_pickF Z Z Z (Zn (Ze ?_)))))
   replace h := Zc h
   rcases h with ⟨hc3, h⟩ | ⟨hc3, h⟩
   ·
    subst hc3
    refine Zu Z (cw_skip (Ze (cw_seq (Zr (Zo Z Z Z (ow_loadOwnA Z Z Z ho28 (Tryd.isAgg48 _) (Tryd.sizeOf48 _) Z ?_))))))
    have lz8 := ((lz5.trans hl10).trans hl11)
    have hw11 : VRep RBox w11 (Add g3 (Add g2 (Add g1 M))) ({ Sides := x1.Sides } : Box) (.agg #[(.slice A3 x1.Sides.length c3)]) := shut_Box (VRep.mono lz8 hw4)
    refine Zo Z Z Z (ow_loadOwnA Z Z Z ho29 (Tryd.isAgg48 _) (Tryd.sizeOf48 _) Z ?_)
    have lz9 := ((lz6.trans hl10).trans hl11)
    have hw12 : VRep RBox w11 (Add g3 (Add g2 (Add g1 M))) ({ Sides := x2.Sides } : Box) (.agg #[(.slice A4 x2.Sides.length c4)]) := shut_Box (VRep.mono lz9 hw6)
    have lz10 := ((lz7.trans hl10).trans hl11)
    refine Zo Z Z Z (Zk Z Z Tryd.call97 (w_spec_l10Meet (hG.mono lz10) hC11.old hw11 hw12 hx5) fun v7 w12 hv7 => ?_)
    obtain ⟨hv7, hb12⟩ := hv7
    have hC12 := hC11.no hb12
    have ho33 := ho30.no hb12
    obtain ⟨A5, c5, rfl, hw13⟩ := open_Box hv7
    refine lw_op0 Z Z (ow_store (X := No) (us := [(.slice A5 x5.Sides.length c5)]) (cs' := #[(.slice A5 x5.Sides.length c5)]) Z Z Z Z ho33 (Tryd.sizeOf48 _) Z Z Z Z hm6 (.inl hg6) Z hC12 fun w13 ho34 hb13 hl13 hC13 => Zn (Ze (Zy ?_)))
    have hw14 : VRep RBox w13 (Add g3 (Add g2 (Add g1 M))) ({ Sides := x5.Sides } : Box) (.agg #[(.slice A5 x5.Sides.length c5)]) := shut_Box (VRep.mono hl13 hw13)
    obtain rfl := sj h
    exact ew_ret (res1 Z (.cell Z (own_loadVarA ho34 (Tryd.isAgg48 _) (Tryd.sizeOf48 _) Z))) ⟨_, Z, (hw14.mono hC13.back), hC13.bx⟩
   ·
    subst hc3
    refine Zt Z (cw_seq (Zr (Zo Z Z Z (ow_build (v := .agg #[(.slice none 0 0)]) Z Z (by kernel_rfl) (lw_op0 Z Z (ow_store (X := No) (us := [(.slice none 0 0)]) (cs' := #[(.slice none 0 0)]) Z Z Z Z ho30 (Tryd.sizeOf48 _) Z Z Z Z hm6 (.inl hg6) Z hC11 fun w14 ho37 hb14 hl14 hC14 => Zn (Ze (Zy (Zh ?_)))))))))
    have hw16 : VRep RBox w14 (Add g3 (Add g2 (Add g1 M))) ({ Sides := ([] : List (List Span)) } : Box) (.agg #[(.slice none 0 0)]) := shut_Box (VRep.mono hl14 (vslice_nil (R := (RSlice RSpan)) (w := w11) (M := (Add g3 (Add g2 (Add g1 M))))))
    obtain rfl := sj h
    exact ew_ret (res1 Z (.cell Z (own_loadVarA ho37 (Tryd.isAgg48 _) (Tryd.sizeOf48 _) Z))) ⟨_, Z, (hw16.mono hC14.back), hC14.bx⟩
  ·
   subst hc2
   refine lw_off Z Z Z Z Z Z (lw_off Z Z Z Z Z Z (lw_off Z Z Z Z Z Z (lw_off Z Z Z Z Z Z (lw_off Z Z Z Z Z Z (Zo Z Z Z (ow_pickT Z Z Z (Zn (Ze (Zt Z (cw_seq (Zr (Zo Z Z Z (ow_build (v := .agg #[(.slice none 0 0)]) Z Z (by kernel_rfl) (lw_op0 Z Z (ow_store (X := No) (us := [(.slice none 0 0)]) (cs' := #[(.slice none 0 0)]) Z Z Z Z ho24 (Tryd.sizeOf48 _) Z Z Z Z hm6 (.inl hg6) Z hC9 fun w15 ho40 hb15 hl15 hC15 => Zn (Ze (Zy (Zh ?_))))))))))))))))))
   have hw18 : VRep RBox w15 (Add g3 (Add g2 (Add g1 M))) ({ Sides := ([] : List (List Span)) } : Box) (.agg #[(.slice none 0 0)]) := shut_Box (VRep.mono hl15 (vslice_nil (R := (RSlice RSpan)) (w := w9) (M := (Add g3 (Add g2 (Add g1 M))))))
   obtain rfl := sj h
   exact ew_ret (res1 Z (.cell Z (own_loadVarA ho40 (Tryd.isAgg48 _) (Tryd.sizeOf48 _) Z))) ⟨_, Z, (hw18.mono hC15.back), hC15.bx⟩
 ·
  subst hc1
  refine lw_off Z Z Z Z Z Z (lw_off Z Z Z Z Z Z (lw_off Z Z Z Z Z Z (Zo Z Z Z (ow_pickT Z Z Z (Zo Z Z Z (Zm Z Z (lw_off Z Z Z Z Z Z (lw_off Z Z Z Z Z Z (lw_off Z Z Z Z Z Z (lw_off Z Z Z Z Z Z (lw_off Z Z Z Z Z Z (Zo Z Z Z (ow_pickT Z Z Z (Zn (Ze (Zt Z (cw_seq (Zr (Zo Z Z Z (ow_build (v := .agg #[(.slice none 0 0)]) Z Z (by kernel_rfl) (lw_op0 Z Z (ow_store (X := No) (us := [(.slice none 0 0)]) (cs' := #[(.slice none 0 0)]) Z Z Z Z ho21 (Tryd.sizeOf48 _) Z Z Z Z hm6 (.inl hg6) Z hC8 fun w16 ho43 hb16 hl16 hC16 => Zn (Ze (Zy (Zh ?_)))))))))))))))))))))))))
  have hw20 : VRep RBox w16 (Add g3 (Add g2 (Add g1 M))) ({ Sides := ([] : List (List Span)) } : Box) (.agg #[(.slice none 0 0)]) := shut_Box (VRep.mono hl16 (vslice_nil (R := (RSlice RSpan)) (w := w8) (M := (Add g3 (Add g2 (Add g1 M))))))
  obtain rfl := sj h
  exact ew_ret (res1 Z (.cell Z (own_loadVarA ho43 (Tryd.isAgg48 _) (Tryd.sizeOf48 _) Z))) ⟨_, Z, (hw20.mono hC16.back), hC16.bx⟩

theorem w_spec_l20Two {w : World} {M : Nat → Prop} (hG : ARep (RArr 4 RShape) w M shapes ⟨0, 0, none⟩) (hO : ∀ b, M b → b < w.heap.size) {g : Nat} {Ax : Option Addr} {cx : Nat} {a_xs : List Int} {a_pos : Int} (hxs : VRep (RSlice RU8) w M a_xs (.slice Ax a_xs.length cx)) (hown : Own w g 183 #[.slice Ax a_xs.length cx, .int .i64 a_pos]) (hgM : M g) {r : Box × Box × Int} (h : F.spec_l20Two a_xs a_pos = some r) :
  Calls Tryd.prog 131 [(.pointer (some ⟨g, 0, none⟩))].toArray w fun e w' => ∃ v, e = .returned v ∧ ((∃ u0 u1, v = .tuple #[u0, u1] ∧ VRep RBox w' M r.1 u0 ∧ VRep RBox w' M r.2.1 u1) ∧ Own w' g 183 #[.slice Ax a_xs.length cx, .int .i64 r.2.2]) ∧ BX (One g) w w' := by
 obtain ⟨i121, hi121, hz121, hs121, hy121⟩ := info121
 have hX : ∀ b, (One g) b → M b := fun b e => e ▸ hgM
 have hC : Cx (One g) w M w M := Cx.start hO hX
 refine walk (N := 44) Tryd.func131 Z Tryd.ntmps131 Z (cw_seq (Zr (Zo Z Z Z (ow_alloc Z (Tryd.zeroValue48 _) hC fun g1 w1 hg1 hg2 ho1 hb1 hl1 hC1 => ?_))))
 have hn1 := Nat.ne_of_lt (Nat.lt_of_lt_of_le hown.lt hg1)
 have ho2 := hown.no hb1
 have hm1 : (Add g1 M) g := .inr hgM
 have hm2 : (Add g1 M) g1 := .inl Z
 refine Zo Z Z Z (ow_alloc Z (Tryd.zeroValue48 _) hC1 fun g2 w2 hg3 hg4 ho3 hb2 hl2 hC2 => ?_)
 have hn2 := Nat.ne_of_lt (Nat.lt_of_lt_of_le ho2.lt hg3)
 have ho4 := ho2.no hb2
 have hm3 : (Add g2 (Add g1 M)) g := .inr hm1
 have hn3 := Nat.ne_of_lt (Nat.lt_of_lt_of_le ho1.lt hg3)
 have ho5 := ho1.no hb2
 have hm4 : (Add g2 (Add g1 M)) g1 := .inr hm2
 have hm5 : (Add g2 (Add g1 M)) g2 := .inl Z
 refine Zn (Ze (cw_seq (Zr (Zo Z Z Z (Zm Z Z ?_)))))
 replace h := bind_some h
 obtain ⟨x1, hx1, h⟩ := h
 refine Zo Z Z Z (Zk Z Z Tryd.call167 (w_spec_l20Box (hG.mono (hl1.trans hl2)) hC2.old (VRep.mono (hl1.trans hl2) hxs) ho4 hm3 hx1) fun v1 w3 hv1 => ?_)
 obtain ⟨⟨hv1, ho6⟩, hb3⟩ := hv1
 have hl3 := Le.of_bx (Add g2 (Add g1 M)) hb3 (fun b e => (by rw [show b = g from e]; exact hm3))
 have hC3 := hC2.go hb3 (fun b e => Or.inr e)
 have ho7 := ho5.go hb3 (fun e => hn1 e.symm)
 have ho8 := ho3.go hb3 (fun e => hn2 e.symm)
 refine lw_allocStore (R := RBox) Z Z Z Z Z Z Z Tryd.zeroValue48 Tryd.sizeOf48 Z Z Z (by simp) hv1 hC3 fun p1 w4 hp1 hb4 hl4 hC4 => ?_
 have ho9 := ho6.no hb4
 have ho10 := ho7.no hb4
 have ho11 := ho8.no hb4
 refine Zn (Ze (cw_seq (Zr (Zo Z Z Z (Zm Z Z ?_)))))
 have lz1 := (((hl1.trans hl2).trans hl3).trans hl4)
 replace h := bind_some h
 obtain ⟨x2, hx2, h⟩ := h
 refine Zo Z Z Z (Zk Z Z Tryd.call167 (w_spec_l20Box (hG.mono lz1) hC4.old (VRep.mono lz1 hxs) ho9 hm3 hx2) fun v2 w5 hv2 => ?_)
 obtain ⟨⟨hv2, ho12⟩, hb5⟩ := hv2
 have hl5 := Le.of_bx (Add g2 (Add g1 M)) hb5 (fun b e => (by rw [show b = g from e]; exact hm3))
 have hC5 := hC4.go hb5 (fun b e => Or.inr e)
 have ho13 := ho10.go hb5 (fun e => hn1 e.symm)
 have ho14 := ho11.go hb5 (fun e => hn2 e.symm)
 refine Zo Z Z Z (ow_alloc Z (Tryd.zeroValue48 _) hC5 fun g3 w6 hg5 hg6 ho15 hb6 hl6 hC6 => ?_)
 have hn4 := Nat.ne_of_lt (Nat.lt_of_lt_of_le ho12.lt hg5)
 have ho16 := ho12.no hb6
 have hm6 : (Add g3 (Add g2 (Add g1 M))) g := .inr hm3
 have hn5 := Nat.ne_of_lt (Nat.lt_of_lt_of_le ho13.lt hg5)
 have ho17 := ho13.no hb6
 have hm7 : (Add g3 (Add g2 (Add g1 M))) g1 := .inr hm4
 have hn6 := Nat.ne_of_lt (Nat.lt_of_lt_of_le ho14.lt hg5)
 have ho18 := ho14.no hb6
 have hm8 : (Add g3 (Add g2 (Add g1 M))) g2 := .inr hm5
 have hm9 : (Add g3 (Add g2 (Add g1 M))) g3 := .inl Z
 obtain ⟨A1, c1, rfl, hw1⟩ := open_Box hv2
 refine lw_op0 Z Z (ow_store (X := (One g)) (us := [(.slice A1 x2.1.Sides.length c1)]) (cs' := #[(.slice A1 x2.1.Sides.length c1)]) Z Z Z Z ho15 (Tryd.sizeOf48 _) Z Z Z Z hm9 (.inl hg6) Z hC6 fun w7 ho19 hb7 hl7 hC7 => ?_)
 have ho20 := ho16.go hb7 (fun e => hn4 e)
 have ho21 := ho17.go hb7 (fun e => hn5 e)
 have ho22 := ho18.go hb7 (fun e => hn6 e)
 refine Zn (Ze (cw_seq (cw_seq (Zr (Zo Z Z Z (Zm Z Z ?_))))))
 have lz2 := (((lz1.trans hl5).trans hl6).trans hl7)
 replace h := bind_some h
 obtain ⟨x3, hx3, h⟩ := h
 refine Zo Z Z Z (Zk Z Z Tryd.call137 (w_spec_l20Rd_pick (hG.mono lz2) hC7.old (VRep.mono lz2 hxs) ho20 hm6 hx3) fun v3 w8 hv3 => ?_)
 obtain ⟨⟨hv3, ho23⟩, hb8⟩ := hv3
 have hl8 := Le.of_bx (Add g3 (Add g2 (Add g1 M))) hb8 (fun b e => (by rw [show b = g from e]; exact hm6))
 have hC8 := hC7.go hb8 (fun b e => Or.inr e)
 have ho24 := ho21.go hb8 (fun e => hn1 e.symm)
 have ho25 := ho22.go hb8 (fun e => hn2 e.symm)
 have ho26 := ho19.go hb8 (fun e => hn4 e.symm)
 obtain rfl := Zi hv3
 refine Zn (Ze (cw_block (cw_seq (Zr (Zo Z Z Z (ow_eqlI Z Z Z fun bb1 hbb1 => Zo Z Z Z (Za Z Z (Zn (Ze ?_)))))))))
 replace h := Zc h
 rcases h with ⟨hc1, h⟩ | ⟨hc1, h⟩
 ·
  obtain rfl := hbb1.trans hc1
  refine Zt Z (cw_seq (Zr ?_))
  have lz3 := (((hl5.trans hl6).trans hl7).trans hl8)
  refine Zo Z Z Z (Zl (R := RBox) Z Z (ARep.mono lz3 hp1) (Tryd.sizeOf48 _) (Tryd.isAgg48 _) fun v4 hv4 => Zo Z Z Z (ow_loadOwnA Z Z Z ho26 (Tryd.isAgg48 _) (Tryd.sizeOf48 _) Z ?_))
  have lz4 := ((hl6.trans hl7).trans hl8)
  have hw2 : VRep RBox w8 (Add g3 (Add g2 (Add g1 M))) ({ Sides := x2.1.Sides } : Box) (.agg #[(.slice A1 x2.1.Sides.length c1)]) := shut_Box (VRep.mono lz4 hw1)
  replace h := bind_some h
  obtain ⟨x4, hx4, h⟩ := h
  refine Zo Z Z Z (Zk Z Z Tryd.call30 (w_spec_BoxMeet (hG.mono (lz2.trans hl8)) hC8.old hv4 hw2 hx4) fun v5 w9 hv5 => ?_)
  obtain ⟨hv5, hb9⟩ := hv5
  have hl9 := Le.no (Add g3 (Add g2 (Add g1 M))) hb9
  have hC9 := hC8.no hb9
  have ho27 := ho23.no hb9
  have ho28 := ho24.no hb9
  have ho29 := ho25.no hb9
  have ho30 := ho26.no hb9
  obtain ⟨A2, c2, rfl, hw3⟩ := open_Box hv5
  refine lw_op0 Z Z (ow_store (X := (One g)) (us := [(.slice A2 x4.Sides.length c2)]) (cs' := #[(.slice A2 x4.Sides.length c2)]) Z Z Z Z ho30 (Tryd.sizeOf48 _) Z Z Z Z hm9 (.inl hg6) Z hC9 fun w10 ho31 hb10 hl10 hC10 => ?_)
  have ho32 := ho27.go hb10 (fun e => hn4 e)
  have ho33 := ho28.go hb10 (fun e => hn5 e)
  have ho34 := ho29.go hb10 (fun e => hn6 e)
  refine Zn (Ze (cw_seq (Zr (Zo Z Z Z (Zf Z Z Tryd.underlying48 Z (Tryd.sizeOf46 _) (Zo Z Z Z (ow_loadOwn1 Z Z Z ho31 (Tryd.isAgg46 _) Z (Zo Z Z Z (ow_len Z Z (VRep.mono hl10 hw3) Tryd.underlying46 Z (Zo Z Z Z (ow_eqlI Z Z Z fun bb2 hbb2 => Zn (Ze ?_))))))))))))
  replace h := Zc h
  rcases h with ⟨hc2, h⟩ | ⟨hc2, h⟩
  ·
   obtain rfl := hbb2.trans hc2
   refine Zt Z (Zr ?_)
   replace h := bind_some h
   obtain ⟨x5, hx5, h⟩ := h
   have lz5 := (((lz2.trans hl8).trans hl9).trans hl10)
   refine Zo Z Z Z (Zk Z Z Tryd.call102 (wo_spec_BoxAll (hG.mono lz5) hC10.old hx5) fun v6 w11 hv6 => ?_)
   obtain ⟨⟨M1, v7, rfl, hr1, hk1⟩, hb11⟩ := hv6
   replace hr1 := hr1.base hC10.bx.size
   have hl11 := hk1.le
   have hC11 := hC10.trans hk1
   have ho35 := ho32.no hb11
   have ho36 := ho33.no hb11
   have hm11 := hk1.sup _ hm7
   have ho37 := ho34.no hb11
   have hm12 := hk1.sup _ hm8
   have ho38 := ho31.no hb11
   have hm13 := hk1.sup _ hm9
   obtain ⟨A3, c3, rfl⟩ := hr1.len
   refine lw_op0 Z Z (ow_store (X := (One g)) (us := [(.slice A3 x5.Sides.length c3)]) (cs' := #[(.slice A3 x5.Sides.length c3)]) Z Z Z Z ho38 (Tryd.sizeOf48 _) Z Z Z Z hm13 (.inl hg6) Z hC11 fun w12 ho39 hb12 hl12 hC12 => ?_)
   have ho40 := ho35.go hb12 (fun e => hn4 e)
   have ho41 := ho36.go hb12 (fun e => hn5 e)
   have ho42 := ho37.go hb12 (fun e => hn6 e)
   have hr2 := hr1.go hb12 (fun k hk e => (orow_ne hr1 ho38 (by decide)) (hk.trans (congrArg some e))) hl12 (fun _ h => h)
   refine Zn (ew_blockN (Ze (cw_seq (cw_tree (by kernel_rfl) fun w13 hS1 => ?_))))
   have hl13 := Le.no M1 hS1
   have hC13 := hC12.no hS1
   have ho43 := ho40.no hS1
   have ho44 := ho41.no hS1
   have ho45 := ho42.no hS1
   have ho46 := ho39.no hS1
   have hr3 := hr2.no hS1
   refine tw_step (i := 0) (js := [1]) (by kernel_rfl) ⟨?_, ?_, trivial⟩
   ·
    have lz6 := (((((lz3.trans hl9).trans hl10).trans hl11).trans hl12).trans hl13)
    refine nd_op Z Z Z Z (Zl (R := RBox) Z Z (ARep.mono lz6 hp1) (Tryd.sizeOf48 _) (Tryd.isAgg48 _) fun v8 hv8 => tw_step (i := 1) (js := [2]) (by kernel_rfl) ⟨?_, ?_, trivial⟩)
    ·
     refine nd_op Z Z Z Z (ow_loadOwnA Z Z Z ho46 (Tryd.isAgg48 _) (Tryd.sizeOf48 _) Z ?_)
     have hw4 := hr3.freezeDel
     have hC14 := hr3.cxDel hC13 hX hO
     have hl14 := Le.del w13 M1 (.slice A3 x5.Sides.length c3)
     have hm15 : (Del (.slice A3 x5.Sides.length c3) M1) g1 := ⟨hm11, fun e => (orow_ne hr3 ho44 (by decide)) e⟩
     have hm16 : (Del (.slice A3 x5.Sides.length c3) M1) g2 := ⟨hm12, fun e => (orow_ne hr3 ho45 (by decide)) e⟩
     refine tw_step (i := 2) (js := []) (by kernel_rfl) ⟨?_, trivial⟩
     obtain ⟨A4, c4, rfl, hw6⟩ := open_Box hv8
     refine nd_op0 Z Z Z (ow_store (X := (One g)) (us := [(.slice A4 x1.1.Sides.length c4)]) (cs' := #[(.slice A4 x1.1.Sides.length c4)]) Z Z Z Z ho44 (Tryd.sizeOf48 _) Z Z Z Z hm15 (.inl hg2) Z hC14 fun w14 ho47 hb13 hl15 hC15 => ?_)
     have ho48 := ho43.go hb13 (fun e => hn1 e)
     have ho49 := ho45.go hb13 (fun e => hn3 e.symm)
     refine tw_step (i := 3) (js := []) (by kernel_rfl) ⟨(nd_op0 Z Z Z (ow_store (X := (One g)) (us := [(.slice A3 x5.Sides.length c3)]) (cs' := #[(.slice A3 x5.Sides.length c3)]) Z Z Z Z ho49 (Tryd.sizeOf48 _) Z Z Z Z hm16 (.inl hg4) Z hC15 fun w15 ho51 hb14 hl16 hC16 => ?_)), trivial⟩
     have ho52 := ho48.go hb14 (fun e => hn2 e)
     have ho53 := ho47.go hb14 (fun e => hn3 e)
     refine tw_end (by kernel_rfl) (Ze (Zy ?_))
     have lz7 := ((hl14.trans hl15).trans hl16)
     have hw7 : VRep RBox w15 (Del (.slice A3 x5.Sides.length c3) M1) ({ Sides := x1.1.Sides } : Box) (.agg #[(.slice A4 x1.1.Sides.length c4)]) := shut_Box (VRep.mono lz7 hw6)
     have hw8 : VRep RBox w15 (Del (.slice A3 x5.Sides.length c3) M1) ({ Sides := x5.Sides } : Box) (.agg #[(.slice A3 x5.Sides.length c3)]) := shut_Box (VRep.mono (hl15.trans hl16) hw4)
     obtain rfl := sj h
     exact ew_ret (res2 Z (.cell Z (own_loadVarA ho53 (Tryd.isAgg48 _) (Tryd.sizeOf48 _) Z)) (.cell Z (own_loadVarA ho51 (Tryd.isAgg48 _) (Tryd.sizeOf48 _) Z))) ⟨_, Z, ⟨⟨_, _, Z, (hw7.mono hC16.back), (hw8.mono hC16.back)⟩, ho52⟩, hC16.bx⟩
    ·
     obtain ⟨A5, c5, rfl, hw9⟩ := open_Box hv8
     refine nd_op0 Z Z Z (ow_store (X := (One g)) (us := [(.slice A5 x1.1.Sides.length c5)]) (cs' := #[(.slice A5 x1.1.Sides.length c5)]) Z Z Z Z ho44 (Tryd.sizeOf48 _) Z Z Z Z hm11 (.inl hg2) Z hC13 fun w16 ho55 hb15 hl17 hC17 => ?_)
     have ho56 := ho43.go hb15 (fun e => hn1 e)
     have ho57 := ho45.go hb15 (fun e => hn3 e.symm)
     have ho58 := ho46.go hb15 (fun e => hn5 e.symm)
     have hr4 := hr3.go hb15 (fun k hk e => (orow_ne hr3 ho44 (by decide)) (hk.trans (congrArg some e))) hl17 (fun _ h => h)
     refine tw_step (i := 1) (js := []) (by kernel_rfl) ⟨(nd_op Z Z Z Z (ow_loadOwnA Z Z Z ho58 (Tryd.isAgg48 _) (Tryd.sizeOf48 _) Z ?_)), trivial⟩
     have hw10 := hr4.freezeDel
     have hC18 := hr4.cxDel hC17 hX hO
     have hl18 := Le.del w16 M1 (.slice A3 x5.Sides.length c3)
     have hm20 : (Del (.slice A3 x5.Sides.length c3) M1) g2 := ⟨hm12, fun e => (orow_ne hr4 ho57 (by decide)) e⟩
     refine tw_step (i := 3) (js := []) (by kernel_rfl) ⟨(nd_op0 Z Z Z (ow_store (X := (One g)) (us := [(.slice A3 x5.Sides.length c3)]) (cs' := #[(.slice A3 x5.Sides.length c3)]) Z Z Z Z ho57 (Tryd.sizeOf48 _) Z Z Z Z hm20 (.inl hg4) Z hC18 fun w17 ho59 hb16 hl19 hC19 => ?_)), trivial⟩
     have ho60 := ho56.go hb16 (fun e => hn2 e)
     have ho61 := ho55.go hb16 (fun e => hn3 e)
     refine tw_end (by kernel_rfl) (Ze (Zy ?_))
     have lz8 := ((hl17.trans hl18).trans hl19)
     have hw12 : VRep RBox w17 (Del (.slice A3 x5.Sides.length c3) M1) ({ Sides := x1.1.Sides } : Box) (.agg #[(.slice A5 x1.1.Sides.length c5)]) := shut_Box (VRep.mono lz8 hw9)
     have hw13 : VRep RBox w17 (Del (.slice A3 x5.Sides.length c3) M1) ({ Sides := x5.Sides } : Box) (.agg #[(.slice A3 x5.Sides.length c3)]) := shut_Box (VRep.mono hl19 hw10)
     obtain rfl := sj h
     exact ew_ret (res2 Z (.cell Z (own_loadVarA ho61 (Tryd.isAgg48 _) (Tryd.sizeOf48 _) Z)) (.cell Z (own_loadVarA ho59 (Tryd.isAgg48 _) (Tryd.sizeOf48 _) Z))) ⟨_, Z, ⟨⟨_, _, Z, (hw12.mono hC19.back), (hw13.mono hC19.back)⟩, ho60⟩, hC19.bx⟩
   ·
    refine nd_op Z Z Z Z (ow_loadOwnA Z Z Z ho46 (Tryd.isAgg48 _) (Tryd.sizeOf48 _) Z ?_)
    have hw14 := hr3.freezeDel
    have hC20 := hr3.cxDel hC13 hX hO
    have hl20 := Le.del w13 M1 (.slice A3 x5.Sides.length c3)
    have hm23 : (Del (.slice A3 x5.Sides.length c3) M1) g1 := ⟨hm11, fun e => (orow_ne hr3 ho44 (by decide)) e⟩
    have hm24 : (Del (.slice A3 x5.Sides.length c3) M1) g2 := ⟨hm12, fun e => (orow_ne hr3 ho45 (by decide)) e⟩
    refine tw_step (i := 0) (js := []) (by kernel_rfl) ⟨?_, trivial⟩
    have lz9 := ((((((lz3.trans hl9).trans hl10).trans hl11).trans hl12).trans hl13).trans hl20)
    refine nd_op Z Z Z Z (Zl (R := RBox) Z Z (ARep.mono lz9 hp1) (Tryd.sizeOf48 _) (Tryd.isAgg48 _) fun v9 hv9 => tw_step (i := 2) (js := []) (by kernel_rfl) ⟨?_, trivial⟩)
    obtain ⟨A6, c6, rfl, hw16⟩ := open_Box hv9
    refine nd_op0 Z Z Z (ow_store (X := (One g)) (us := [(.slice A6 x1.1.Sides.length c6)]) (cs' := #[(.slice A6 x1.1.Sides.length c6)]) Z Z Z Z ho44 (Tryd.sizeOf48 _) Z Z Z Z hm23 (.inl hg2) Z hC20 fun w18 ho63 hb17 hl21 hC21 => ?_)
    have ho64 := ho43.go hb17 (fun e => hn1 e)
    have ho65 := ho45.go hb17 (fun e => hn3 e.symm)
    refine tw_step (i := 3) (js := []) (by kernel_rfl) ⟨(nd_op0 Z Z Z (ow_store (X := (One g)) (us := [(.slice A3 x5.Sides.length c3)]) (cs' := #[(.slice A3 x5.Sides.length c3)]) Z Z Z Z ho65 (Tryd.sizeOf48 _) Z Z Z Z hm24 (.inl hg4) Z hC21 fun w19 ho67 hb18 hl22 hC22 => ?_)), trivial⟩
    have ho68 := ho64.go hb18 (fun e => hn2 e)
    have ho69 := ho63.go hb18 (fun e => hn3 e)
    refine tw_end (by kernel_rfl) (Ze (Zy ?_))
    have hw17 : VRep RBox w19 (Del (.slice A3 x5.Sides.length c3) M1) ({ Sides := x1.1.Sides } : Box) (.agg #[(.slice A6 x1.1.Sides.length c6)]) := shut_Box (VRep.mono (hl21.trans hl22) hw16)
    have hw18 : VRep RBox w19 (Del (.slice A3 x5.Sides.length c3) M1) ({ Sides := x5.Sides } : Box) (.agg #[(.slice A3 x5.Sides.length c3)]) := shut_Box (VRep.mono (hl21.trans hl22) hw14)
    obtain rfl := sj h
    exact ew_ret (res2 Z (.cell Z (own_loadVarA ho69 (Tryd.isAgg48 _) (Tryd.sizeOf48 _) Z)) (.cell Z (own_loadVarA ho67 (Tryd.isAgg48 _) (Tryd.sizeOf48 _) Z))) ⟨_, Z, ⟨⟨_, _, Z, (hw17.mono hC22.back), (hw18.mono hC22.back)⟩, ho68⟩, hC22.bx⟩
  ·
   obtain rfl := hbb2.trans hc2
   refine Zu Z (cw_skip (ew_blockN (Ze (cw_seq (cw_tree (by kernel_rfl) fun w20 hS2 => ?_)))))
   have hl23 := Le.no (Add g3 (Add g2 (Add g1 M))) hS2
   have hC23 := hC10.no hS2
   have ho71 := ho32.no hS2
   have ho72 := ho33.no hS2
   have ho73 := ho34.no hS2
   have ho74 := ho31.no hS2
   refine tw_step (i := 0) (js := [1]) (by kernel_rfl) ⟨?_, ?_, trivial⟩
   ·
    have lz10 := (((lz3.trans hl9).trans hl10).trans hl23)
    refine nd_op Z Z Z Z (Zl (R := RBox) Z Z (ARep.mono lz10 hp1) (Tryd.sizeOf48 _) (Tryd.isAgg48 _) fun v10 hv10 => tw_step (i := 1) (js := [2]) (by kernel_rfl) ⟨?_, ?_, trivial⟩)
    ·
     refine nd_op Z Z Z Z (ow_loadOwnA Z Z Z ho74 (Tryd.isAgg48 _) (Tryd.sizeOf48 _) Z (tw_step (i := 2) (js := []) (by kernel_rfl) ⟨?_, trivial⟩))
     obtain ⟨A7, c7, rfl, hw20⟩ := open_Box hv10
     refine nd_op0 Z Z Z (ow_store (X := (One g)) (us := [(.slice A7 x1.1.Sides.length c7)]) (cs' := #[(.slice A7 x1.1.Sides.length c7)]) Z Z Z Z ho72 (Tryd.sizeOf48 _) Z Z Z Z hm7 (.inl hg2) Z hC23 fun w21 ho75 hb19 hl24 hC24 => ?_)
     have ho76 := ho71.go hb19 (fun e => hn1 e)
     have ho77 := ho73.go hb19 (fun e => hn3 e.symm)
     refine tw_step (i := 3) (js := []) (by kernel_rfl) ⟨(nd_op0 Z Z Z (ow_store (X := (One g)) (us := [(.slice A2 x4.Sides.length c2)]) (cs' := #[(.slice A2 x4.Sides.length c2)]) Z Z Z Z ho77 (Tryd.sizeOf48 _) Z Z Z Z hm8 (.inl hg4) Z hC24 fun w22 ho79 hb20 hl25 hC25 => ?_)), trivial⟩
     have ho80 := ho76.go hb20 (fun e => hn2 e)
     have ho81 := ho75.go hb20 (fun e => hn3 e)
     refine tw_end (by kernel_rfl) (Ze (Zy ?_))
     have hw21 : VRep RBox w22 (Add g3 (Add g2 (Add g1 M))) ({ Sides := x1.1.Sides } : Box) (.agg #[(.slice A7 x1.1.Sides.length c7)]) := shut_Box (VRep.mono (hl24.trans hl25) hw20)
     have lz11 := (((hl10.trans hl23).trans hl24).trans hl25)
     have hw22 : VRep RBox w22 (Add g3 (Add g2 (Add g1 M))) ({ Sides := x4.Sides } : Box) (.agg #[(.slice A2 x4.Sides.length c2)]) := shut_Box (VRep.mono lz11 hw3)
     obtain rfl := sj h
     exact ew_ret (res2 Z (.cell Z (own_loadVarA ho81 (Tryd.isAgg48 _) (Tryd.sizeOf48 _) Z)) (.cell Z (own_loadVarA ho79 (Tryd.isAgg48 _) (Tryd.sizeOf48 _) Z))) ⟨_, Z, ⟨⟨_, _, Z, (hw21.mono hC25.back), (hw22.mono hC25.back)⟩, ho80⟩, hC25.bx⟩
    ·
     obtain ⟨A8, c8, rfl, hw23⟩ := open_Box hv10
     refine nd_op0 Z Z Z (ow_store (X := (One g)) (us := [(.slice A8 x1.1.Sides.length c8)]) (cs' := #[(.slice A8 x1.1.Sides.length c8)]) Z Z Z Z ho72 (Tryd.sizeOf48 _) Z Z Z Z hm7 (.inl hg2) Z hC23 fun w23 ho83 hb21 hl26 hC26 => ?_)
     have ho84 := ho71.go hb21 (fun e => hn1 e)
     have ho85 := ho73.go hb21 (fun e => hn3 e.symm)
     have ho86 := ho74.go hb21 (fun e => hn5 e.symm)
     refine tw_step (i := 1) (js := []) (by kernel_rfl) ⟨(nd_op Z Z Z Z (ow_loadOwnA Z Z Z ho86 (Tryd.isAgg48 _) (Tryd.sizeOf48 _) Z ?_)), trivial⟩
     have lz12 := ((hl10.trans hl23).trans hl26)
     refine tw_step (i := 3) (js := []) (by kernel_rfl) ⟨(nd_op0 Z Z Z (ow_store (X := (One g)) (us := [(.slice A2 x4.Sides.length c2)]) (cs' := #[(.slice A2 x4.Sides.length c2)]) Z Z Z Z ho85 (Tryd.sizeOf48 _) Z Z Z Z hm8 (.inl hg4) Z hC26 fun w24 ho87 hb22 hl27 hC27 => ?_)), trivial⟩
     have ho88 := ho84.go hb22 (fun e => hn2 e)
     have ho89 := ho83.go hb22 (fun e => hn3 e)
     refine tw_end (by kernel_rfl) (Ze (Zy ?_))
     have hw25 : VRep RBox w24 (Add g3 (Add g2 (Add g1 M))) ({ Sides := x1.1.Sides } : Box) (.agg #[(.slice A8 x1.1.Sides.length c8)]) := shut_Box (VRep.mono (hl26.trans hl27) hw23)
     have hw26 : VRep RBox w24 (Add g3 (Add g2 (Add g1 M))) ({ Sides := x4.Sides } : Box) (.agg #[(.slice A2 x4.Sides.length c2)]) := shut_Box (VRep.mono (lz12.trans hl27) hw3)
     obtain rfl := sj h
     exact ew_ret (res2 Z (.cell Z (own_loadVarA ho89 (Tryd.isAgg48 _) (Tryd.sizeOf48 _) Z)) (.cell Z (own_loadVarA ho87 (Tryd.isAgg48 _) (Tryd.sizeOf48 _) Z))) ⟨_, Z, ⟨⟨_, _, Z, (hw25.mono hC27.back), (hw26.mono hC27.back)⟩, ho88⟩, hC27.bx⟩
   ·
    refine nd_op Z Z Z Z (ow_loadOwnA Z Z Z ho74 (Tryd.isAgg48 _) (Tryd.sizeOf48 _) Z (tw_step (i := 0) (js := []) (by kernel_rfl) ⟨?_, trivial⟩))
    have lz13 := (((lz3.trans hl9).trans hl10).trans hl23)
    refine nd_op Z Z Z Z (Zl (R := RBox) Z Z (ARep.mono lz13 hp1) (Tryd.sizeOf48 _) (Tryd.isAgg48 _) fun v11 hv11 => tw_step (i := 2) (js := []) (by kernel_rfl) ⟨?_, trivial⟩)
    obtain ⟨A9, c9, rfl, hw28⟩ := open_Box hv11
    refine nd_op0 Z Z Z (ow_store (X := (One g)) (us := [(.slice A9 x1.1.Sides.length c9)]) (cs' := #[(.slice A9 x1.1.Sides.length c9)]) Z Z Z Z ho72 (Tryd.sizeOf48 _) Z Z Z Z hm7 (.inl hg2) Z hC23 fun w25 ho91 hb23 hl28 hC28 => ?_)
    have ho92 := ho71.go hb23 (fun e => hn1 e)
    have ho93 := ho73.go hb23 (fun e => hn3 e.symm)
    refine tw_step (i := 3) (js := []) (by kernel_rfl) ⟨(nd_op0 Z Z Z (ow_store (X := (One g)) (us := [(.slice A2 x4.Sides.length c2)]) (cs' := #[(.slice A2 x4.Sides.length c2)]) Z Z Z Z ho93 (Tryd.sizeOf48 _) Z Z Z Z hm8 (.inl hg4) Z hC28 fun w26 ho95 hb24 hl29 hC29 => ?_)), trivial⟩
    have ho96 := ho92.go hb24 (fun e => hn2 e)
    have ho97 := ho91.go hb24 (fun e => hn3 e)
    refine tw_end (by kernel_rfl) (Ze (Zy ?_))
    have hw29 : VRep RBox w26 (Add g3 (Add g2 (Add g1 M))) ({ Sides := x1.1.Sides } : Box) (.agg #[(.slice A9 x1.1.Sides.length c9)]) := shut_Box (VRep.mono (hl28.trans hl29) hw28)
    have lz14 := (((hl10.trans hl23).trans hl28).trans hl29)
    have hw30 : VRep RBox w26 (Add g3 (Add g2 (Add g1 M))) ({ Sides := x4.Sides } : Box) (.agg #[(.slice A2 x4.Sides.length c2)]) := shut_Box (VRep.mono lz14 hw3)
    obtain rfl := sj h
    exact ew_ret (res2 Z (.cell Z (own_loadVarA ho97 (Tryd.isAgg48 _) (Tryd.sizeOf48 _) Z)) (.cell Z (own_loadVarA ho95 (Tryd.isAgg48 _) (Tryd.sizeOf48 _) Z))) ⟨_, Z, ⟨⟨_, _, Z, (hw29.mono hC29.back), (hw30.mono hC29.back)⟩, ho96⟩, hC29.bx⟩
 ·
  obtain rfl := hbb1.trans hc1
  refine Zu Z (cw_seq (Zr (Zo Z Z Z (ow_eqlI Z Z Z fun bb3 hbb3 => Zo Z Z Z (Za Z Z (Zn (Ze ?_)))))))
  replace h := Zc h
  rcases h with ⟨hc3, h⟩ | ⟨hc3, h⟩
  ·
   obtain rfl := hbb3.trans hc3
   refine Zt Z (cw_seq (Zr ?_))
   have lz15 := (((hl5.trans hl6).trans hl7).trans hl8)
   refine Zo Z Z Z (Zl (R := RBox) Z Z (ARep.mono lz15 hp1) (Tryd.sizeOf48 _) (Tryd.isAgg48 _) fun v12 hv12 => ?_)
   replace h := bind_some h
   obtain ⟨x6, hx6, h⟩ := h
   refine Zo Z Z Z (Zk Z Z Tryd.call71 (w_spec_BoxValid (hG.mono (lz2.trans hl8)) hC8.old hv12 hx6) fun v13 w27 hv13 => ?_)
   obtain ⟨hv13, hb25⟩ := hv13
   have hl30 := Le.no (Add g3 (Add g2 (Add g1 M))) hb25
   have hC30 := hC8.no hb25
   have ho99 := ho23.no hb25
   have ho100 := ho24.no hb25
   have ho101 := ho25.no hb25
   have ho102 := ho26.no hb25
   obtain rfl := vbool_eq hv13
   refine Zn (Ze ?_)
   replace h := Zc h
   rcases h with ⟨hc4, h⟩ | ⟨hc4, h⟩
   ·
    subst hc4
    refine Zt Z (cw_seq (Zr (Zo Z Z Z (Zm Z Z ?_))))
    have lz16 := ((lz2.trans hl8).trans hl30)
    replace h := bind_some h
    obtain ⟨x7, hx7, h⟩ := h
    refine Zo Z Z Z (Zk Z Z Tryd.call137 (w_spec_l20Rd_pick (hG.mono lz16) hC30.old (VRep.mono lz16 hxs) ho99 hm6 hx7) fun v14 w28 hv14 => ?_)
    obtain ⟨⟨hv14, ho103⟩, hb26⟩ := hv14
    have hl31 := Le.of_bx (Add g3 (Add g2 (Add g1 M))) hb26 (fun b e => (by rw [show b = g from e]; exact hm6))
    have hC31 := hC30.go hb26 (fun b e => Or.inr e)
    have ho104 := ho100.go hb26 (fun e => hn1 e.symm)
    have ho105 := ho101.go hb26 (fun e => hn2 e.symm)
    have ho106 := ho102.go hb26 (fun e => hn4 e.symm)
    obtain rfl := Zi hv14
    refine Zo Z Z Z (Za Z Z (Zn (Ze (cw_seq (Zr (Zo Z Z Z (ow_buildSlice0 (R := (RSlice RSpan)) (e := 121) Z (by kernel_rfl) hC31 fun p2 w29 M2 hr5 hb27 hl32 hC32 hM1 hat1 => ?_)))))))
    have ho107 := ho103.no hb27
    have hm26 := hM1 _ hm6
    have ho108 := ho104.no hb27
    have hm27 := hM1 _ hm7
    have ho109 := ho105.no hb27
    have hm28 := hM1 _ hm8
    have ho110 := ho106.no hb27
    have hm29 := hM1 _ hm9
    refine Zo Z Z Z (Zf Z Z Tryd.underlying48 Z (Tryd.sizeOf46 _) ?_)
    have lz17 := (((lz15.trans hl30).trans hl31).trans hl32)
    refine Zo Z Z Z (Zl (R := (RSlice (RSlice RSpan))) Z Z (ARep.mono lz17 (hp1.fld fld_Box_Sides)) (Tryd.sizeOf46 _) (Tryd.isAgg46 _) fun v15 hv15 => ?_)
    replace h := bind_some h
    obtain ⟨z1, hz1, h⟩ := h
    refine Zo Z Z Z (ow_append (R := (RSlice RSpan)) Z Z Z Z Tryd.underlying46 hi121 hz121 hs121 hy121 Z Z Z Z hr5 hv15 hz1 hC32 fun v16 w30 M3 hr6 hb28 hl33 hC33 hM2 hat2 => ?_)
    have ho111 := ho107.go hb28 (fun e => (orow_ne hr5 ho107 (by decide)) e)
    have hm30 := hM2 _ hm26
    have ho112 := ho108.go hb28 (fun e => (orow_ne hr5 ho108 (by decide)) e)
    have hm31 := hM2 _ hm27
    have ho113 := ho109.go hb28 (fun e => (orow_ne hr5 ho109 (by decide)) e)
    have hm32 := hM2 _ hm28
    have ho114 := ho110.go hb28 (fun e => (orow_ne hr5 ho110 (by decide)) e)
    have hm33 := hM2 _ hm29
    obtain ⟨A10, c10, rfl⟩ := hr6.len
    refine Zo Z Z Z (ow_build (v := .agg #[(.slice A10 z1.length c10)]) Z Z (by kernel_rfl) (lw_op0 Z Z (ow_store (X := (One g)) (us := [(.slice A10 z1.length c10)]) (cs' := #[(.slice A10 z1.length c10)]) Z Z Z Z ho114 (Tryd.sizeOf48 _) Z Z Z Z hm33 (.inl hg6) Z hC33 fun w31 ho115 hb29 hl34 hC34 => ?_)))
    have ho116 := ho111.go hb29 (fun e => hn4 e)
    have ho117 := ho112.go hb29 (fun e => hn5 e)
    have ho118 := ho113.go hb29 (fun e => hn6 e)
    have hr7 := hr6.go hb29 (fun k hk e => (orow_ne hr6 ho114 (by decide)) (hk.trans (congrArg some e))) hl34 (fun _ h => h)
    refine Zn (Ze ?_)
    replace h := bind_some h
    obtain ⟨x8, hx8, h⟩ := h
    replace h := bind_some h
    obtain ⟨x9, hx9, h⟩ := h
    have lz18 := ((((lz16.trans hl31).trans hl32).trans hl33).trans hl34)
    have lz20 := ((lz17.trans hl33).trans hl34)
    refine cw_sub (E' := [(0, (.pointer (some ⟨g, 0, none⟩))), (2, (.pointer (some ⟨g1, 0, none⟩))), (3, (.pointer (some ⟨g2, 0, none⟩))), (4, (.pointer (some p1))), (5, (.pointer (some ⟨g3, 0, none⟩))), (6, (.int .i64 x7.1))]) ⟨Z, Z, Z, Z, Z, Z, trivial⟩ (cw_drawC (g := g) (T := 183) 7 1 [none, none, none, none, none, none, some 0] [#[(.slice Ax a_xs.length cx), (.int .i64 x7.2)], #[(.slice Ax a_xs.length cx), (.int .i64 x9.2)]] [PEq (.pointer (some ⟨g3, 0, none⟩)), PEq (.slice A10 z1.length c10), PEq (.int .i64 x7.1), PEq (.pointer (some ⟨g, 0, none⟩)), PEq (.int .i64 x7.1), PEq (.int .i64 x8), PV (RSlice RSpan) M3 x9.1] (by kernel_rfl) Z (by kernel_rfl) (by kernel_rfl) ho116 ⟨(PEq.monoY hm30 _), (PEq.monoY hm30 _), (PEq.monoY hm30 _), (PEq.monoY hm30 _), (PEq.monoY hm30 _), (PEq.monoY hm30 _), (PV.monoY hm30 _ _), trivial⟩ ⟨?_, ?_, ?_, ?_, ?_, ?_, ?_, trivial⟩ ?_)
    ·
     intro w34 D hS3 hd1
     exact Zs (E' := [(5, (.pointer (some ⟨g3, 0, none⟩)))]) ⟨Z, trivial⟩ (Zp Z (Zf Z Z Tryd.underlying48 Z (Tryd.sizeOf46 _) Zb))
    ·
     intro w35 D hS4 hd2
     have ho132 := ho115.go hS4 (fun e => hn4 e.symm)
     exact Zs (E' := [(34, (.pointer (some ⟨g3, 0, none⟩)))]) ⟨(dpE hd2 0 Z Z), trivial⟩ (Zp Z (ow_loadOwn1 Z Z Z ho132 (Tryd.isAgg46 _) Z Zb))
    ·
     intro w36 D hS5 hd3
     exact Zs (E' := [(6, (.int .i64 x7.1))]) ⟨Z, trivial⟩ (Zp Z (Zm Z Z Zb))
    ·
     intro w37 D hS6 hd4
     exact Zs (E' := [(0, (.pointer (some ⟨g, 0, none⟩)))]) ⟨Z, trivial⟩ (Zp Z (Zm Z Z Zb))
    ·
     intro w38 D hS7 hd5
     exact Zs (E' := [(6, (.int .i64 x7.1))]) ⟨Z, trivial⟩ (Zp Z (Zm Z Z Zb))
    ·
     intro w39 D hS8 hd6
     have hl42 := leY hm30 hS8
     have hC42 := hC34.go hS8 (fun b e => Or.inr e)
     refine Zs (E' := [(38, (.int .i64 x7.1))]) ⟨(dpE hd6 4 Z Z), trivial⟩ (Zp Z (Zk Z Z Tryd.call88 (w_spec_FieldTop (hG.mono (lz18.trans hl42)) hC42.old hx8) fun v19 w40 hv19 => ?_))
     obtain ⟨hv19, hb32⟩ := hv19
     obtain rfl := Zi hv19
     exact ⟨hb32, Z⟩
    ·
     intro w41 D hS9 hd7
     obtain ⟨hS9, ho148⟩ := hS9
     have ho148 : Own w41 g 183 #[(.slice Ax a_xs.length cx), (.int .i64 x7.2)] := ho148
     have hl44 := leY hm30 hS9
     have hC44 := hC34.go hS9 (fun b e => Or.inr e)
     refine Zs (E' := [(37, (.pointer (some ⟨g, 0, none⟩))), (39, (.int .i64 x8))]) ⟨(dpE hd7 3 Z Z), (dpE hd7 5 Z Z), trivial⟩ (Zp Z (Zk Z Z Tryd.call168 (w_spec_l20Set (hG.mono (lz18.trans hl44)) hC44.old (VRep.mono (lz18.trans hl44) hxs) ho148 hm30 hx9) fun v20 w42 hv20 => ?_))
     obtain ⟨⟨hv20, ho152⟩, hb33⟩ := hv20
     exact ⟨⟨⟨hS9.trans hb33, ho152⟩, hb33⟩, hv20⟩
    ·
     intro w43 D hS10 hd8
     have d12 : PV (RSlice RSpan) M3 x9.1 (D 6) w43 := dpA hd8 6 Z
     obtain ⟨hS10, ho156⟩ := hS10
     have ho156 : Own w43 g 183 #[(.slice Ax a_xs.length cx), (.int .i64 x9.2)] := ho156
     have hl46 := leY hm30 hS10
     have hC46 := hC34.go hS10 (fun b e => Or.inr e)
     have ho157 := ho117.go hS10 (fun e => hn1 e.symm)
     have ho158 := ho118.go hS10 (fun e => hn2 e.symm)
     have ho159 := ho115.go hS10 (fun e => hn4 e.symm)
     have hr19 := hr7.go hS10 (fun k hk e => (orow_ne hr7 ho116 (by decide)) (hk.trans (congrArg some e))) hl46 (fun _ h => h)
     generalize hq1 : (D 6) = v21 at d12
     refine lw_sub (E' := [(35, (.slice A10 z1.length c10)), (36, (.int .i64 x7.1)), (40, v21), (0, (.pointer (some ⟨g, 0, none⟩))), (2, (.pointer (some ⟨g1, 0, none⟩))), (3, (.pointer (some ⟨g2, 0, none⟩))), (4, (.pointer (some p1))), (5, (.pointer (some ⟨g3, 0, none⟩))), (6, (.int .i64 x7.1))]) ⟨(dpE hd8 1 Z Z), (dpE hd8 2 Z Z), (congrArg some hq1), Z, Z, Z, Z, Z, Z, trivial⟩ ?_
     replace h := bind_some h
     obtain ⟨x10, hx10, h⟩ := h
     refine Zo Z Z Z (ow_indexRow (R := (RSlice RSpan)) Z Z Z hr19 Tryd.underlying46 (Tryd.sizeOf121 _) hx10 (lw_op0 Z Z (ow_storeElRow (X := (One g)) (R := (RSlice RSpan)) (S := (RSlice RSpan)) Z Z Z Z hr19 (orow_blk hr19 hx10) hx10 (FldSet.whole (RSlice RSpan)) (Tryd.sizeOf121 _) d12 (Nat.le_refl _) hC46 fun w44 ho160 hb34 hl47 hC47 => ?_)))
     have ho161 := ho156.go hb34 (fun e => (orow_ne hr19 ho156 (by decide)) (by rw [orow_blk hr19 hx10]; exact congrArg some e.symm))
     have ho162 := ho157.go hb34 (fun e => (orow_ne hr19 ho157 (by decide)) (by rw [orow_blk hr19 hx10]; exact congrArg some e.symm))
     have ho163 := ho158.go hb34 (fun e => (orow_ne hr19 ho158 (by decide)) (by rw [orow_blk hr19 hx10]; exact congrArg some e.symm))
     have ho164 := ho159.go hb34 (fun e => (orow_ne hr19 ho159 (by decide)) (by rw [orow_blk hr19 hx10]; exact congrArg some e.symm))
     refine Zn (ew_blockN (Ze (cw_seq (cw_tree (by kernel_rfl) fun w45 hS11 => ?_))))
     have hl48 := Le.no M3 hS11
     have hC48 := hC47.no hS11
     have ho165 := ho161.no hS11
     have ho166 := ho162.no hS11
     have ho167 := ho163.no hS11
     have ho168 := ho164.no hS11
     have hr20 := ho160.no hS11
     refine tw_step (i := 0) (js := [1]) (by kernel_rfl) ⟨?_, ?_, trivial⟩
     ·
      have lz24 := (((lz20.trans hl46).trans hl47).trans hl48)
      refine nd_op Z Z Z Z (Zl (R := RBox) Z Z (ARep.mono lz24 hp1) (Tryd.sizeOf48 _) (Tryd.isAgg48 _) fun v22 hv22 => tw_step (i := 1) (js := [2]) (by kernel_rfl) ⟨?_, ?_, trivial⟩)
      ·
       refine nd_op Z Z Z Z (ow_loadOwnA Z Z Z ho168 (Tryd.isAgg48 _) (Tryd.sizeOf48 _) Z ?_)
       have hw31 := hr20.freezeDel
       have hC49 := hr20.cxDel hC48 hX hO
       have hl49 := Le.del w45 M3 (.slice A10 z1.length c10)
       have hm35 : (Del (.slice A10 z1.length c10) M3) g1 := ⟨hm31, fun e => (orow_ne hr20 ho166 (by decide)) e⟩
       have hm36 : (Del (.slice A10 z1.length c10) M3) g2 := ⟨hm32, fun e => (orow_ne hr20 ho167 (by decide)) e⟩
       refine tw_step (i := 2) (js := []) (by kernel_rfl) ⟨?_, trivial⟩
       obtain ⟨A11, c11, rfl, hw33⟩ := open_Box hv22
       refine nd_op0 Z Z Z (ow_store (X := (One g)) (us := [(.slice A11 x1.1.Sides.length c11)]) (cs' := #[(.slice A11 x1.1.Sides.length c11)]) Z Z Z Z ho166 (Tryd.sizeOf48 _) Z Z Z Z hm35 (.inl hg2) Z hC49 fun w46 ho169 hb35 hl50 hC50 => ?_)
       have ho170 := ho165.go hb35 (fun e => hn1 e)
       have ho171 := ho167.go hb35 (fun e => hn3 e.symm)
       refine tw_step (i := 3) (js := []) (by kernel_rfl) ⟨(nd_op0 Z Z Z (ow_store (X := (One g)) (us := [(.slice A10 z1.length c10)]) (cs' := #[(.slice A10 z1.length c10)]) Z Z Z Z ho171 (Tryd.sizeOf48 _) Z Z Z Z hm36 (.inl hg4) Z hC50 fun w47 ho173 hb36 hl51 hC51 => ?_)), trivial⟩
       have ho174 := ho170.go hb36 (fun e => hn2 e)
       have ho175 := ho169.go hb36 (fun e => hn3 e)
       refine tw_end (by kernel_rfl) (Ze (Zy ?_))
       have lz25 := ((hl49.trans hl50).trans hl51)
       have hw34 : VRep RBox w47 (Del (.slice A10 z1.length c10) M3) ({ Sides := x1.1.Sides } : Box) (.agg #[(.slice A11 x1.1.Sides.length c11)]) := shut_Box (VRep.mono lz25 hw33)
       have hw35 : VRep RBox w47 (Del (.slice A10 z1.length c10) M3) ({ Sides := (List.set z1 (x7.1 : Int).toNat x9.1) } : Box) (.agg #[(.slice A10 z1.length c10)]) := shut_Box (VRep.mono (hl50.trans hl51) hw31)
       obtain rfl := sj h
       exact ew_ret (res2 Z (.cell Z (own_loadVarA ho175 (Tryd.isAgg48 _) (Tryd.sizeOf48 _) Z)) (.cell Z (own_loadVarA ho173 (Tryd.isAgg48 _) (Tryd.sizeOf48 _) Z))) ⟨_, Z, ⟨⟨_, _, Z, (hw34.mono hC51.back), (hw35.mono hC51.back)⟩, ho174⟩, hC51.bx⟩
      ·
       obtain ⟨A12, c12, rfl, hw36⟩ := open_Box hv22
       refine nd_op0 Z Z Z (ow_store (X := (One g)) (us := [(.slice A12 x1.1.Sides.length c12)]) (cs' := #[(.slice A12 x1.1.Sides.length c12)]) Z Z Z Z ho166 (Tryd.sizeOf48 _) Z Z Z Z hm31 (.inl hg2) Z hC48 fun w48 ho177 hb37 hl52 hC52 => ?_)
       have ho178 := ho165.go hb37 (fun e => hn1 e)
       have ho179 := ho167.go hb37 (fun e => hn3 e.symm)
       have ho180 := ho168.go hb37 (fun e => hn5 e.symm)
       have hr21 := hr20.go hb37 (fun k hk e => (orow_ne hr20 ho166 (by decide)) (hk.trans (congrArg some e))) hl52 (fun _ h => h)
       refine tw_step (i := 1) (js := []) (by kernel_rfl) ⟨(nd_op Z Z Z Z (ow_loadOwnA Z Z Z ho180 (Tryd.isAgg48 _) (Tryd.sizeOf48 _) Z ?_)), trivial⟩
       have hw37 := hr21.freezeDel
       have hC53 := hr21.cxDel hC52 hX hO
       have hl53 := Le.del w48 M3 (.slice A10 z1.length c10)
       have hm40 : (Del (.slice A10 z1.length c10) M3) g2 := ⟨hm32, fun e => (orow_ne hr21 ho179 (by decide)) e⟩
       refine tw_step (i := 3) (js := []) (by kernel_rfl) ⟨(nd_op0 Z Z Z (ow_store (X := (One g)) (us := [(.slice A10 z1.length c10)]) (cs' := #[(.slice A10 z1.length c10)]) Z Z Z Z ho179 (Tryd.sizeOf48 _) Z Z Z Z hm40 (.inl hg4) Z hC53 fun w49 ho181 hb38 hl54 hC54 => ?_)), trivial⟩
       have ho182 := ho178.go hb38 (fun e => hn2 e)
       have ho183 := ho177.go hb38 (fun e => hn3 e)
       refine tw_end (by kernel_rfl) (Ze (Zy ?_))
       have lz26 := ((hl52.trans hl53).trans hl54)
       have hw39 : VRep RBox w49 (Del (.slice A10 z1.length c10) M3) ({ Sides := x1.1.Sides } : Box) (.agg #[(.slice A12 x1.1.Sides.length c12)]) := shut_Box (VRep.mono lz26 hw36)
       have hw40 : VRep RBox w49 (Del (.slice A10 z1.length c10) M3) ({ Sides := (List.set z1 (x7.1 : Int).toNat x9.1) } : Box) (.agg #[(.slice A10 z1.length c10)]) := shut_Box (VRep.mono hl54 hw37)
       obtain rfl := sj h
       exact ew_ret (res2 Z (.cell Z (own_loadVarA ho183 (Tryd.isAgg48 _) (Tryd.sizeOf48 _) Z)) (.cell Z (own_loadVarA ho181 (Tryd.isAgg48 _) (Tryd.sizeOf48 _) Z))) ⟨_, Z, ⟨⟨_, _, Z, (hw39.mono hC54.back), (hw40.mono hC54.back)⟩, ho182⟩, hC54.bx⟩
     ·
      refine nd_op Z Z Z Z (ow_loadOwnA Z Z Z ho168 (Tryd.isAgg48 _) (Tryd.sizeOf48 _) Z ?_)
      have hw41 := hr20.freezeDel
      have hC55 := hr20.cxDel hC48 hX hO
      have hl55 := Le.del w45 M3 (.slice A10 z1.length c10)
      have hm43 : (Del (.slice A10 z1.length c10) M3) g1 := ⟨hm31, fun e => (orow_ne hr20 ho166 (by decide)) e⟩
      have hm44 : (Del (.slice A10 z1.length c10) M3) g2 := ⟨hm32, fun e => (orow_ne hr20 ho167 (by decide)) e⟩
      refine tw_step (i := 0) (js := []) (by kernel_rfl) ⟨?_, trivial⟩
      have lz27 := ((((lz20.trans hl46).trans hl47).trans hl48).trans hl55)
      refine nd_op Z Z Z Z (Zl (R := RBox) Z Z (ARep.mono lz27 hp1) (Tryd.sizeOf48 _) (Tryd.isAgg48 _) fun v23 hv23 => tw_step (i := 2) (js := []) (by kernel_rfl) ⟨?_, trivial⟩)
      obtain ⟨A13, c13, rfl, hw43⟩ := open_Box hv23
      refine nd_op0 Z Z Z (ow_store (X := (One g)) (us := [(.slice A13 x1.1.Sides.length c13)]) (cs' := #[(.slice A13 x1.1.Sides.length c13)]) Z Z Z Z ho166 (Tryd.sizeOf48 _) Z Z Z Z hm43 (.inl hg2) Z hC55 fun w50 ho185 hb39 hl56 hC56 => ?_)
      have ho186 := ho165.go hb39 (fun e => hn1 e)
      have ho187 := ho167.go hb39 (fun e => hn3 e.symm)
      refine tw_step (i := 3) (js := []) (by kernel_rfl) ⟨(nd_op0 Z Z Z (ow_store (X := (One g)) (us := [(.slice A10 z1.length c10)]) (cs' := #[(.slice A10 z1.length c10)]) Z Z Z Z ho187 (Tryd.sizeOf48 _) Z Z Z Z hm44 (.inl hg4) Z hC56 fun w51 ho189 hb40 hl57 hC57 => ?_)), trivial⟩
      have ho190 := ho186.go hb40 (fun e => hn2 e)
      have ho191 := ho185.go hb40 (fun e => hn3 e)
      refine tw_end (by kernel_rfl) (Ze (Zy ?_))
      have hw44 : VRep RBox w51 (Del (.slice A10 z1.length c10) M3) ({ Sides := x1.1.Sides } : Box) (.agg #[(.slice A13 x1.1.Sides.length c13)]) := shut_Box (VRep.mono (hl56.trans hl57) hw43)
      have hw45 : VRep RBox w51 (Del (.slice A10 z1.length c10) M3) ({ Sides := (List.set z1 (x7.1 : Int).toNat x9.1) } : Box) (.agg #[(.slice A10 z1.length c10)]) := shut_Box (VRep.mono (hl56.trans hl57) hw41)
      obtain rfl := sj h
      exact ew_ret (res2 Z (.cell Z (own_loadVarA ho191 (Tryd.isAgg48 _) (Tryd.sizeOf48 _) Z)) (.cell Z (own_loadVarA ho189 (Tryd.isAgg48 _) (Tryd.sizeOf48 _) Z))) ⟨_, Z, ⟨⟨_, _, Z, (hw44.mono hC57.back), (hw45.mono hC57.back)⟩, ho190⟩, hC57.bx⟩
   ·
    subst hc4
    refine Zu Z (cw_skip (ew_blockN (Ze (cw_seq (cw_tree (by kernel_rfl) fun w52 hS12 => ?_)))))
    have hl58 := Le.no (Add g3 (Add g2 (Add g1 M))) hS12
    have hC58 := hC30.no hS12
    have ho193 := ho99.no hS12
    have ho194 := ho100.no hS12
    have ho195 := ho101.no hS12
    have ho196 := ho102.no hS12
    refine tw_step (i := 0) (js := [1]) (by kernel_rfl) ⟨?_, ?_, trivial⟩
    ·
     have lz28 := ((lz15.trans hl30).trans hl58)
     refine nd_op Z Z Z Z (Zl (R := RBox) Z Z (ARep.mono lz28 hp1) (Tryd.sizeOf48 _) (Tryd.isAgg48 _) fun v24 hv24 => tw_step (i := 1) (js := [2]) (by kernel_rfl) ⟨?_, ?_, trivial⟩)
     ·
      refine nd_op Z Z Z Z (ow_loadOwnA Z Z Z ho196 (Tryd.isAgg48 _) (Tryd.sizeOf48 _) Z ?_)
      have lz29 := ((((hl6.trans hl7).trans hl8).trans hl30).trans hl58)
      refine tw_step (i := 2) (js := []) (by kernel_rfl) ⟨?_, trivial⟩
      obtain ⟨A14, c14, rfl, hw47⟩ := open_Box hv24
      refine nd_op0 Z Z Z (ow_store (X := (One g)) (us := [(.slice A14 x1.1.Sides.length c14)]) (cs' := #[(.slice A14 x1.1.Sides.length c14)]) Z Z Z Z ho194 (Tryd.sizeOf48 _) Z Z Z Z hm7 (.inl hg2) Z hC58 fun w53 ho197 hb41 hl59 hC59 => ?_)
      have ho198 := ho193.go hb41 (fun e => hn1 e)
      have ho199 := ho195.go hb41 (fun e => hn3 e.symm)
      refine tw_step (i := 3) (js := []) (by kernel_rfl) ⟨(nd_op0 Z Z Z (ow_store (X := (One g)) (us := [(.slice A1 x2.1.Sides.length c1)]) (cs' := #[(.slice A1 x2.1.Sides.length c1)]) Z Z Z Z ho199 (Tryd.sizeOf48 _) Z Z Z Z hm8 (.inl hg4) Z hC59 fun w54 ho201 hb42 hl60 hC60 => ?_)), trivial⟩
      have ho202 := ho198.go hb42 (fun e => hn2 e)
      have ho203 := ho197.go hb42 (fun e => hn3 e)
      refine tw_end (by kernel_rfl) (Ze (Zy ?_))
      have hw48 : VRep RBox w54 (Add g3 (Add g2 (Add g1 M))) ({ Sides := x1.1.Sides } : Box) (.agg #[(.slice A14 x1.1.Sides.length c14)]) := shut_Box (VRep.mono (hl59.trans hl60) hw47)
      have lz30 := ((lz29.trans hl59).trans hl60)
      have hw49 : VRep RBox w54 (Add g3 (Add g2 (Add g1 M))) ({ Sides := x2.1.Sides } : Box) (.agg #[(.slice A1 x2.1.Sides.length c1)]) := shut_Box (VRep.mono lz30 hw1)
      obtain rfl := sj h
      exact ew_ret (res2 Z (.cell Z (own_loadVarA ho203 (Tryd.isAgg48 _) (Tryd.sizeOf48 _) Z)) (.cell Z (own_loadVarA ho201 (Tryd.isAgg48 _) (Tryd.sizeOf48 _) Z))) ⟨_, Z, ⟨⟨_, _, Z, (hw48.mono hC60.back), (hw49.mono hC60.back)⟩, ho202⟩, hC60.bx⟩
     ·
      obtain ⟨A15, c15, rfl, hw50⟩ := open_Box hv24
      refine nd_op0 Z Z Z (ow_store (X := (One g)) (us := [(.slice A15 x1.1.Sides.length c15)]) (cs' := #[(.slice A15 x1.1.Sides.length c15)]) Z Z Z Z ho194 (Tryd.sizeOf48 _) Z Z Z Z hm7 (.inl hg2) Z hC58 fun w55 ho205 hb43 hl61 hC61 => ?_)
      have ho206 := ho193.go hb43 (fun e => hn1 e)
      have ho207 := ho195.go hb43 (fun e => hn3 e.symm)
      have ho208 := ho196.go hb43 (fun e => hn5 e.symm)
      refine tw_step (i := 1) (js := []) (by kernel_rfl) ⟨(nd_op Z Z Z Z (ow_loadOwnA Z Z Z ho208 (Tryd.isAgg48 _) (Tryd.sizeOf48 _) Z ?_)), trivial⟩
      have lz31 := (((((hl6.trans hl7).trans hl8).trans hl30).trans hl58).trans hl61)
      refine tw_step (i := 3) (js := []) (by kernel_rfl) ⟨(nd_op0 Z Z Z (ow_store (X := (One g)) (us := [(.slice A1 x2.1.Sides.length c1)]) (cs' := #[(.slice A1 x2.1.Sides.length c1)]) Z Z Z Z ho207 (Tryd.sizeOf48 _) Z Z Z Z hm8 (.inl hg4) Z hC61 fun w56 ho209 hb44 hl62 hC62 => ?_)), trivial⟩
      have ho210 := ho206.go hb44 (fun e => hn2 e)
      have ho211 := ho205.go hb44 (fun e => hn3 e)
      refine tw_end (by kernel_rfl) (Ze (Zy ?_))
      have hw52 : VRep RBox w56 (Add g3 (Add g2 (Add g1 M))) ({ Sides := x1.1.Sides } : Box) (.agg #[(.slice A15 x1.1.Sides.length c15)]) := shut_Box (VRep.mono (hl61.trans hl62) hw50)
      have hw53 : VRep RBox w56 (Add g3 (Add g2 (Add g1 M))) ({ Sides := x2.1.Sides } : Box) (.agg #[(.slice A1 x2.1.Sides.length c1)]) := shut_Box (VRep.mono (lz31.trans hl62) hw1)
      obtain rfl := sj h
      exact ew_ret (res2 Z (.cell Z (own_loadVarA ho211 (Tryd.isAgg48 _) (Tryd.sizeOf48 _) Z)) (.cell Z (own_loadVarA ho209 (Tryd.isAgg48 _) (Tryd.sizeOf48 _) Z))) ⟨_, Z, ⟨⟨_, _, Z, (hw52.mono hC62.back), (hw53.mono hC62.back)⟩, ho210⟩, hC62.bx⟩
    ·
     refine nd_op Z Z Z Z (ow_loadOwnA Z Z Z ho196 (Tryd.isAgg48 _) (Tryd.sizeOf48 _) Z ?_)
     have lz32 := ((((hl6.trans hl7).trans hl8).trans hl30).trans hl58)
     refine tw_step (i := 0) (js := []) (by kernel_rfl) ⟨?_, trivial⟩
     have lz33 := ((lz15.trans hl30).trans hl58)
     refine nd_op Z Z Z Z (Zl (R := RBox) Z Z (ARep.mono lz33 hp1) (Tryd.sizeOf48 _) (Tryd.isAgg48 _) fun v25 hv25 => tw_step (i := 2) (js := []) (by kernel_rfl) ⟨?_, trivial⟩)
     obtain ⟨A16, c16, rfl, hw55⟩ := open_Box hv25
     refine nd_op0 Z Z Z (ow_store (X := (One g)) (us := [(.slice A16 x1.1.Sides.length c16)]) (cs' := #[(.slice A16 x1.1.Sides.length c16)]) Z Z Z Z ho194 (Tryd.sizeOf48 _) Z Z Z Z hm7 (.inl hg2) Z hC58 fun w57 ho213 hb45 hl63 hC63 => ?_)
     have ho214 := ho193.go hb45 (fun e => hn1 e)
     have ho215 := ho195.go hb45 (fun e => hn3 e.symm)
     refine tw_step (i := 3) (js := []) (by kernel_rfl) ⟨(nd_op0 Z Z Z (ow_store (X := (One g)) (us := [(.slice A1 x2.1.Sides.length c1)]) (cs' := #[(.slice A1 x2.1.Sides.length c1)]) Z Z Z Z ho215 (Tryd.sizeOf48 _) Z Z Z Z hm8 (.inl hg4) Z hC63 fun w58 ho217 hb46 hl64 hC64 => ?_)), trivial⟩
     have ho218 := ho214.go hb46 (fun e => hn2 e)
     have ho219 := ho213.go hb46 (fun e => hn3 e)
     refine tw_end (by kernel_rfl) (Ze (Zy ?_))
     have hw56 : VRep RBox w58 (Add g3 (Add g2 (Add g1 M))) ({ Sides := x1.1.Sides } : Box) (.agg #[(.slice A16 x1.1.Sides.length c16)]) := shut_Box (VRep.mono (hl63.trans hl64) hw55)
     have lz34 := ((lz32.trans hl63).trans hl64)
     have hw57 : VRep RBox w58 (Add g3 (Add g2 (Add g1 M))) ({ Sides := x2.1.Sides } : Box) (.agg #[(.slice A1 x2.1.Sides.length c1)]) := shut_Box (VRep.mono lz34 hw1)
     obtain rfl := sj h
     exact ew_ret (res2 Z (.cell Z (own_loadVarA ho219 (Tryd.isAgg48 _) (Tryd.sizeOf48 _) Z)) (.cell Z (own_loadVarA ho217 (Tryd.isAgg48 _) (Tryd.sizeOf48 _) Z))) ⟨_, Z, ⟨⟨_, _, Z, (hw56.mono hC64.back), (hw57.mono hC64.back)⟩, ho218⟩, hC64.bx⟩
  ·
   obtain rfl := hbb3.trans hc3
   refine Zu Z (cw_skip (ew_blockN (Ze (cw_seq (cw_tree (by kernel_rfl) fun w59 hS13 => ?_)))))
   have hl65 := Le.no (Add g3 (Add g2 (Add g1 M))) hS13
   have hC65 := hC8.no hS13
   have ho221 := ho23.no hS13
   have ho222 := ho24.no hS13
   have ho223 := ho25.no hS13
   have ho224 := ho26.no hS13
   refine tw_step (i := 0) (js := [1]) (by kernel_rfl) ⟨?_, ?_, trivial⟩
   ·
    have lz35 := ((((hl5.trans hl6).trans hl7).trans hl8).trans hl65)
    refine nd_op Z Z Z Z (Zl (R := RBox) Z Z (ARep.mono lz35 hp1) (Tryd.sizeOf48 _) (Tryd.isAgg48 _) fun v26 hv26 => tw_step (i := 1) (js := [2]) (by kernel_rfl) ⟨?_, ?_, trivial⟩)
    ·
     refine nd_op Z Z Z Z (ow_loadOwnA Z Z Z ho224 (Tryd.isAgg48 _) (Tryd.sizeOf48 _) Z ?_)
     have lz36 := (((hl6.trans hl7).trans hl8).trans hl65)
     refine tw_step (i := 2) (js := []) (by kernel_rfl) ⟨?_, trivial⟩
     obtain ⟨A17, c17, rfl, hw59⟩ := open_Box hv26
     refine nd_op0 Z Z Z (ow_store (X := (One g)) (us := [(.slice A17 x1.1.Sides.length c17)]) (cs' := #[(.slice A17 x1.1.Sides.length c17)]) Z Z Z Z ho222 (Tryd.sizeOf48 _) Z Z Z Z hm7 (.inl hg2) Z hC65 fun w60 ho225 hb47 hl66 hC66 => ?_)
     have ho226 := ho221.go hb47 (fun e => hn1 e)
     have ho227 := ho223.go hb47 (fun e => hn3 e.symm)
     refine tw_step (i := 3) (js := []) (by kernel_rfl) ⟨(nd_op0 Z Z Z (ow_store (X := (One g)) (us := [(.slice A1 x2.1.Sides.length c1)]) (cs' := #[(.slice A1 x2.1.Sides.length c1)]) Z Z Z Z ho227 (Tryd.sizeOf48 _) Z Z Z Z hm8 (.inl hg4) Z hC66 fun w61 ho229 hb48 hl67 hC67 => ?_)), trivial⟩
     have ho230 := ho226.go hb48 (fun e => hn2 e)
     have ho231 := ho225.go hb48 (fun e => hn3 e)
     refine tw_end (by kernel_rfl) (Ze (Zy ?_))
     have hw60 : VRep RBox w61 (Add g3 (Add g2 (Add g1 M))) ({ Sides := x1.1.Sides } : Box) (.agg #[(.slice A17 x1.1.Sides.length c17)]) := shut_Box (VRep.mono (hl66.trans hl67) hw59)
     have lz37 := ((lz36.trans hl66).trans hl67)
     have hw61 : VRep RBox w61 (Add g3 (Add g2 (Add g1 M))) ({ Sides := x2.1.Sides } : Box) (.agg #[(.slice A1 x2.1.Sides.length c1)]) := shut_Box (VRep.mono lz37 hw1)
     obtain rfl := sj h
     exact ew_ret (res2 Z (.cell Z (own_loadVarA ho231 (Tryd.isAgg48 _) (Tryd.sizeOf48 _) Z)) (.cell Z (own_loadVarA ho229 (Tryd.isAgg48 _) (Tryd.sizeOf48 _) Z))) ⟨_, Z, ⟨⟨_, _, Z, (hw60.mono hC67.back), (hw61.mono hC67.back)⟩, ho230⟩, hC67.bx⟩
    ·
     obtain ⟨A18, c18, rfl, hw62⟩ := open_Box hv26
     refine nd_op0 Z Z Z (ow_store (X := (One g)) (us := [(.slice A18 x1.1.Sides.length c18)]) (cs' := #[(.slice A18 x1.1.Sides.length c18)]) Z Z Z Z ho222 (Tryd.sizeOf48 _) Z Z Z Z hm7 (.inl hg2) Z hC65 fun w62 ho233 hb49 hl68 hC68 => ?_)
     have ho234 := ho221.go hb49 (fun e => hn1 e)
     have ho235 := ho223.go hb49 (fun e => hn3 e.symm)
     have ho236 := ho224.go hb49 (fun e => hn5 e.symm)
     refine tw_step (i := 1) (js := []) (by kernel_rfl) ⟨(nd_op Z Z Z Z (ow_loadOwnA Z Z Z ho236 (Tryd.isAgg48 _) (Tryd.sizeOf48 _) Z ?_)), trivial⟩
     have lz38 := ((((hl6.trans hl7).trans hl8).trans hl65).trans hl68)
     refine tw_step (i := 3) (js := []) (by kernel_rfl) ⟨(nd_op0 Z Z Z (ow_store (X := (One g)) (us := [(.slice A1 x2.1.Sides.length c1)]) (cs' := #[(.slice A1 x2.1.Sides.length c1)]) Z Z Z Z ho235 (Tryd.sizeOf48 _) Z Z Z Z hm8 (.inl hg4) Z hC68 fun w63 ho237 hb50 hl69 hC69 => ?_)), trivial⟩
     have ho238 := ho234.go hb50 (fun e => hn2 e)
     have ho239 := ho233.go hb50 (fun e => hn3 e)
     refine tw_end (by kernel_rfl) (Ze (Zy ?_))
     have hw64 : VRep RBox w63 (Add g3 (Add g2 (Add g1 M))) ({ Sides := x1.1.Sides } : Box) (.agg #[(.slice A18 x1.1.Sides.length c18)]) := shut_Box (VRep.mono (hl68.trans hl69) hw62)
     have hw65 : VRep RBox w63 (Add g3 (Add g2 (Add g1 M))) ({ Sides := x2.1.Sides } : Box) (.agg #[(.slice A1 x2.1.Sides.length c1)]) := shut_Box (VRep.mono (lz38.trans hl69) hw1)
     obtain rfl := sj h
     exact ew_ret (res2 Z (.cell Z (own_loadVarA ho239 (Tryd.isAgg48 _) (Tryd.sizeOf48 _) Z)) (.cell Z (own_loadVarA ho237 (Tryd.isAgg48 _) (Tryd.sizeOf48 _) Z))) ⟨_, Z, ⟨⟨_, _, Z, (hw64.mono hC69.back), (hw65.mono hC69.back)⟩, ho238⟩, hC69.bx⟩
   ·
    refine nd_op Z Z Z Z (ow_loadOwnA Z Z Z ho224 (Tryd.isAgg48 _) (Tryd.sizeOf48 _) Z ?_)
    have lz39 := (((hl6.trans hl7).trans hl8).trans hl65)
    refine tw_step (i := 0) (js := []) (by kernel_rfl) ⟨?_, trivial⟩
    have lz40 := ((((hl5.trans hl6).trans hl7).trans hl8).trans hl65)
    refine nd_op Z Z Z Z (Zl (R := RBox) Z Z (ARep.mono lz40 hp1) (Tryd.sizeOf48 _) (Tryd.isAgg48 _) fun v27 hv27 => tw_step (i := 2) (js := []) (by kernel_rfl) ⟨?_, trivial⟩)
    obtain ⟨A19, c19, rfl, hw67⟩ := open_Box hv27
    refine nd_op0 Z Z Z (ow_store (X := (One g)) (us := [(.slice A19 x1.1.Sides.length c19)]) (cs' := #[(.slice A19 x1.1.Sides.length c19)]) Z Z Z Z ho222 (Tryd.sizeOf48 _) Z Z Z Z hm7 (.inl hg2) Z hC65 fun w64 ho241 hb51 hl70 hC70 => ?_)
    have ho242 := ho221.go hb51 (fun e => hn1 e)
    have ho243 := ho223.go hb51 (fun e => hn3 e.symm)
    refine tw_step (i := 3) (js := []) (by kernel_rfl) ⟨(nd_op0 Z Z Z (ow_store (X := (One g)) (us := [(.slice A1 x2.1.Sides.length c1)]) (cs' := #[(.slice A1 x2.1.Sides.length c1)]) Z Z Z Z ho243 (Tryd.sizeOf48 _) Z Z Z Z hm8 (.inl hg4) Z hC70 fun w65 ho245 hb52 hl71 hC71 => ?_)), trivial⟩
    have ho246 := ho242.go hb52 (fun e => hn2 e)
    have ho247 := ho241.go hb52 (fun e => hn3 e)
    refine tw_end (by kernel_rfl) (Ze (Zy ?_))
    have hw68 : VRep RBox w65 (Add g3 (Add g2 (Add g1 M))) ({ Sides := x1.1.Sides } : Box) (.agg #[(.slice A19 x1.1.Sides.length c19)]) := shut_Box (VRep.mono (hl70.trans hl71) hw67)
    have lz41 := ((lz39.trans hl70).trans hl71)
    have hw69 : VRep RBox w65 (Add g3 (Add g2 (Add g1 M))) ({ Sides := x2.1.Sides } : Box) (.agg #[(.slice A1 x2.1.Sides.length c1)]) := shut_Box (VRep.mono lz41 hw1)
    obtain rfl := sj h
    exact ew_ret (res2 Z (.cell Z (own_loadVarA ho247 (Tryd.isAgg48 _) (Tryd.sizeOf48 _) Z)) (.cell Z (own_loadVarA ho245 (Tryd.isAgg48 _) (Tryd.sizeOf48 _) Z))) ⟨_, Z, ⟨⟨_, _, Z, (hw68.mono hC71.back), (hw69.mono hC71.back)⟩, ho246⟩, hC71.bx⟩

theorem w_spec_l20Open {w : World} {M : Nat → Prop} (_hG : ARep (RArr 4 RShape) w M shapes ⟨0, 0, none⟩) (hO : ∀ b, M b → b < w.heap.size) {v0p : Value} {a_code : List Int} (h0 : VRep (RSlice RU8) w M a_code v0p) {r : List Int × Int} (h : F.spec_l20Open a_code = some r) :
  Calls Tryd.prog 76 [v0p].toArray w fun e w' => ∃ v, e = .returned v ∧ (∃ g A c, v = .pointer (some ⟨g, 0, none⟩) ∧ w.heap.size ≤ g ∧ Own w' g 183 #[.slice A r.1.length c, .int .i64 r.2] ∧ VRep (RSlice RU8) w' (Add g M) r.1 (.slice A r.1.length c)) ∧ BX No w w' := by
 have hC : Cx No w M w M := Cx.start hO (fun _ e => e.elim)
 clear _hG
 refine walk (N := 11) Tryd.func76 Z Tryd.ntmps76 Z (cw_seq (Zr (Zo Z Z Z (Za Z Z (Zn (Ze (cw_seq (cw_seq (Zr (Zo Z Z Z (Zm Z Z (Zo Z Z Z (ow_len Z Z h0 Tryd.underlying22 Z (Zo Z Z Z (ow_gtr Z Z Z fun bb1 hbb1 => Zn (Ze ?_))))))))))))))))
 replace h := Zc h
 rcases h with ⟨hc1, h⟩ | ⟨hc1, h⟩
 ·
  obtain rfl := hbb1.trans hc1
  refine Zt Z (Zr (Zo Z Z Z (Zm Z Z ?_)))
  replace h := bind_some h
  obtain ⟨y1, hy1, h⟩ := h
  refine Zo Z Z Z (ow_sliceTo (R := RU8) Z Z Z h0 Tryd.underlying22 (Tryd.sizeOf5 _) (takeF_some hy1).2 fun v1 hv1 => ?_)
  rw [← (takeF_some hy1).1] at hv1
  refine Zo Z Z Z (Za Z Z (Zn (Ze (cw_seq (Zr (Zo Z Z Z (Zm Z Z ?_)))))))
  obtain ⟨A1, c1, rfl, -⟩ := vslice_shape hv1
  refine Zo Z Z Z (ow_build (v := .agg #[(.slice A1 y1.length c1), (.int .i64 0)]) Z Z (by kernel_rfl) (Zo Z Z Z (ow_boxOwn Z Z hC fun g1 w1 hg1 hg2 ho1 hb1 hl1 hC1 => Zo Z Z Z (Za Z Z (Zn (Ze (Zy ?_)))))))
  obtain rfl := sj h
  exact ew_ret (res1 Z (.tmp Z)) ⟨_, Z, ⟨_, _, _, Z, hg2, ho1, (VRep.mono hl1 hv1)⟩, hC1.bx⟩
 ·
  obtain rfl := hbb1.trans hc1
  refine Zu Z (cw_skip (Ze (cw_seq (Zr (Zo Z Z Z (Zm Z Z ?_))))))
  obtain ⟨A2, c2, rfl, -⟩ := vslice_shape h0
  refine Zo Z Z Z (ow_build (v := .agg #[(.slice A2 a_code.length c2), (.int .i64 0)]) Z Z (by kernel_rfl) (Zo Z Z Z (ow_boxOwn Z Z hC fun g2 w2 hg3 hg4 ho2 hb2 hl2 hC2 => Zo Z Z Z (Za Z Z (Zn (Ze (Zy ?_)))))))
  obtain rfl := sj h
  exact ew_ret (res1 Z (.tmp Z)) ⟨_, Z, ⟨_, _, _, Z, hg4, ho2, (VRep.mono hl2 h0)⟩, hC2.bx⟩

theorem w_spec_DrawBoxWithin {w : World} {M : Nat → Prop} (hG : ARep (RArr 4 RShape) w M shapes ⟨0, 0, none⟩) (hO : ∀ b, M b → b < w.heap.size) {v0p : Value} {a_code : List Int} (h0 : VRep (RSlice RU8) w M a_code v0p) {r : Box × Box} (h : F.spec_DrawBoxWithin a_code = some r) :
  Calls Tryd.prog 68 [v0p].toArray w fun e w' => ∃ v, e = .returned v ∧ (∃ u0 u1, v = .tuple #[u0, u1] ∧ VRep RBox w' M r.1 u0 ∧ VRep RBox w' M r.2 u1) ∧ BX No w w' := by
 have hC : Cx No w M w M := Cx.start hO (fun _ e => e.elim)
 refine walk (N := 9) Tryd.func68 Z Tryd.ntmps68 Z (cw_seq (Zr (Zo Z Z Z (ow_alloc Z (Tryd.zeroValue48 _) hC fun g1 w1 hg1 hg2 ho1 hb1 hl1 hC1 => ?_))))
 have hm1 : (Add g1 M) g1 := .inl Z
 refine Zo Z Z Z (ow_alloc Z (Tryd.zeroValue48 _) hC1 fun g2 w2 hg3 hg4 ho2 hb2 hl2 hC2 => ?_)
 have hn1 := Nat.ne_of_lt (Nat.lt_of_lt_of_le ho1.lt hg3)
 have ho3 := ho1.no hb2
 have hm2 : (Add g2 (Add g1 M)) g1 := .inr hm1
 have hm3 : (Add g2 (Add g1 M)) g2 := .inl Z
 refine Zn (Ze (cw_seq (Zr (Zo Z Z Z (Zm Z Z ?_)))))
 replace h := bind_some h
 obtain ⟨x1, hx1, h⟩ := h
 refine Zo Z Z Z (Zk Z Z Tryd.call76 (w_spec_l20Open (hG.mono (hl1.trans hl2)) hC2.old (VRep.mono (hl1.trans hl2) h0) hx1) fun v1 w3 hv1 => ?_)
 obtain ⟨⟨g3, A1, c1, rfl, hg5, ho4, hw1⟩, hb3⟩ := hv1
 have hl3 := (Le.no (Add g2 (Add g1 M)) hb3).add hg5
 have hg6 := Nat.le_trans hC2.bx.size hg5
 have hC3 := (hC2.no hb3).add ho4.lt hg6
 have hn2 := Nat.ne_of_lt (Nat.lt_of_lt_of_le ho3.lt hg5)
 have ho5 := ho3.no hb3
 have hm4 : (Add g3 (Add g2 (Add g1 M))) g1 := .inr hm2
 have hn3 := Nat.ne_of_lt (Nat.lt_of_lt_of_le ho2.lt hg5)
 have ho6 := ho2.no hb3
 have hm5 : (Add g3 (Add g2 (Add g1 M))) g2 := .inr hm3
 have hm6 : (Add g3 (Add g2 (Add g1 M))) g3 := .inl Z
 replace h := bind_some h
 obtain ⟨x2, hx2, h⟩ := h
 have lz1 := ((hl1.trans hl2).trans hl3)
 refine Zo Z Z Z (Zk Z Z Tryd.call131 (w_spec_l20Two (hG.mono lz1) hC3.old hw1 ho4 hm6 hx2) fun v2 w4 hv2 => ?_)
 obtain ⟨⟨⟨v3, v4, rfl, hv3, hv4⟩, ho7⟩, hb4⟩ := hv2
 have hC4 := hC3.go hb4 (fun b e => (by rw [show b = g3 from e]; exact (.inl hg6)))
 have ho8 := ho5.go hb4 (fun e => hn2 e)
 have ho9 := ho6.go hb4 (fun e => hn3 e)
 refine Zo Z Z Z (ow_extract Z Z Z (Zo Z Z Z (ow_extract Z Z Z ?_)))
 obtain ⟨A2, c2, rfl, hw2⟩ := open_Box hv3
 refine lw_op0 Z Z (ow_store (X := No) (us := [(.slice A2 x2.1.Sides.length c2)]) (cs' := #[(.slice A2 x2.1.Sides.length c2)]) Z Z Z Z ho8 (Tryd.sizeOf48 _) Z Z Z Z hm4 (.inl hg2) Z hC4 fun w5 ho10 hb5 hl5 hC5 => ?_)
 have ho11 := ho9.go hb5 (fun e => hn1 e.symm)
 obtain ⟨A3, c3, rfl, hw3⟩ := open_Box hv4
 refine lw_op0 Z Z (ow_store (X := No) (us := [(.slice A3 x2.2.1.Sides.length c3)]) (cs' := #[(.slice A3 x2.2.1.Sides.length c3)]) Z Z Z Z ho11 (Tryd.sizeOf48 _) Z Z Z Z hm5 (.inl hg4) Z hC5 fun w6 ho13 hb6 hl6 hC6 => ?_)
 have ho14 := ho10.go hb6 (fun e => hn1 e)
 refine Zn (Ze (Zy ?_))
 have hw4 : VRep RBox w6 (Add g3 (Add g2 (Add g1 M))) ({ Sides := x2.1.Sides } : Box) (.agg #[(.slice A2 x2.1.Sides.length c2)]) := shut_Box (VRep.mono (hl5.trans hl6) hw2)
 have hw5 : VRep RBox w6 (Add g3 (Add g2 (Add g1 M))) ({ Sides := x2.2.1.Sides } : Box) (.agg #[(.slice A3 x2.2.1.Sides.length c3)]) := shut_Box (VRep.mono (hl5.trans hl6) hw3)
 obtain rfl := sj h
 exact ew_ret (res2 Z (.cell Z (own_loadVarA ho14 (Tryd.isAgg48 _) (Tryd.sizeOf48 _) Z)) (.cell Z (own_loadVarA ho13 (Tryd.isAgg48 _) (Tryd.sizeOf48 _) Z))) ⟨_, Z, ⟨_, _, Z, (hw4.mono hC6.back), (hw5.mono hC6.back)⟩, hC6.bx⟩

theorem w_impl_sides_within {w : World} {M : Nat → Prop} (hG : ARep (RArr 4 RShape) w M shapes ⟨0, 0, none⟩) (hO : ∀ b, M b → b < w.heap.size) {v0p : Value} {a_s : List (List Span)} (h0 : VRep (RArr 4 (RSlice RSpan)) w M a_s v0p) {v1p : Value} {a_other : List (List Span)} (h1 : VRep (RArr 4 (RSlice RSpan)) w M a_other v1p) {r : Bool} (h : F.impl_sides_within a_s a_other = some r) :
  Calls Tryd.prog 132 [v0p, v1p].toArray w fun e w' => ∃ v, e = .returned v ∧ VRep RBool w' M r v ∧ BX No w w' := by
 have hC : Cx No w M w M := Cx.start hO (fun _ e => e.elim)
 refine walk (N := 23) Tryd.func132 Z Tryd.ntmps132 Z (cw_seq (Zr (Zo Z Z Z (ow_box (R := (RArr 4 (RSlice RSpan))) Z Z h0 hC fun p1 w1 hp1 hb1 hl1 hC1 => Zo Z Z Z (ow_box (R := (RArr 4 (RSlice RSpan))) Z Z (VRep.mono hl1 h1) hC1 fun p2 w2 hp2 hb2 hl2 hC2 => Zo Z Z Z (Za Z Z (Zn (Ze (cw_seq (cw_seq (Zr (Zo Z Z Z (Zl (R := (RArr 4 (RSlice RSpan))) Z Z (ARep.mono hl2 hp1) (Tryd.sizeOf131 _) (Tryd.isAgg131 _) fun v1 hv1 => ?_)))))))))))))
 replace h := bind_some h
 obtain ⟨x1, hx1, h⟩ := h
 refine Zo Z Z Z (Zk Z Z Tryd.call92 (w_impl_sides_empty (hG.mono (hl1.trans hl2)) hC2.old hv1 hx1) fun v2 w3 hv2 => ?_)
 obtain ⟨hv2, hb3⟩ := hv2
 have hl3 := Le.no M hb3
 have hC3 := hC2.no hb3
 obtain rfl := vbool_eq hv2
 refine Zn (Ze ?_)
 replace h := Zc h
 rcases h with ⟨hc1, h⟩ | ⟨hc1, h⟩
 ·
  subst hc1
  refine Zt Z (cw_seq (Zr (Zo Z Z Z (Za Z Z (Zn (Ze (Zy (Zh ?_))))))))
  obtain rfl := sj h
  exact ew_ret (res1 Z (.tmp Z)) ⟨_, Z, ((vbool _)), hC3.bx⟩
 ·
  subst hc1
  refine Zu Z (cw_skip (Ze (cw_seq (cw_seq (Zr (Zo Z Z Z (Zm Z Z (Zn (Ze ?_)))))))))
  replace h := bind_some h
  obtain ⟨lr1, hlr1, h⟩ := h
  refine cw_for hlr1 (fun s a w' => ∃ (M' : Nat → Prop), Fits 23 [(2, (.pointer (some p1))), (3, (.pointer (some p2))), (8, (.int .i64 s))] a ∧ Le w3 M w' M' ∧ Cx No w M w' M') ?_ ?_ ?_
  ·
   intro a ha
   exact ⟨M, ha.sub ⟨Z, Z, Z, trivial⟩, Le.refl _ _, hC3⟩
  ·
   rintro k1 a w4 sr1 ⟨M1, hF1, hl4, hC4⟩ hb4 hR1
   refine cw_at (E := [(2, (.pointer (some p1))), (3, (.pointer (some p2))), (8, (.int .i64 k1))]) hF1 (cw_seq (Zr (Zo Z Z Z (ow_lss Z Z Z fun bb1 hbb1 => Zn (Ze (cw_seq ?_))))))
   replace hb4 := Zc hb4
   rcases hb4 with ⟨hc2, hb4⟩ | ⟨hc2, hb4⟩
   ·
    obtain rfl := hbb1.trans hc2
    refine Zt Z (cw_skip (Ze (cw_seq (cw_block (cw_seq (Zr (Zo Z Z Z (Zm Z Z (Zo Z Z Z (Za Z Z (Zn (Ze (cw_seq ?_)))))))))))))
    replace hb4 := bind_some hb4
    obtain ⟨x2, hx2, hb4⟩ := hb4
    replace hb4 := bind_some hb4
    obtain ⟨x3, hx3, hb4⟩ := hb4
    replace hb4 := bind_some hb4
    obtain ⟨x4, hx4, hb4⟩ := hb4
    have lz1 := (((hl1.trans hl2).trans hl3).trans hl4)
    have lz2 := ((hl2.trans hl3).trans hl4)
    have lz3 := (hl3.trans hl4)
    refine cw_sub (E' := [(2, (.pointer (some p1))), (3, (.pointer (some p2))), (5, (.int .i64 k1)), (8, (.int .i64 k1))]) ⟨Z, Z, Z, Z, trivial⟩ (cw_drawQ 8 [PEq (.int .i64 k1), PA (RSlice RSpan) M1 x2, PV (RSlice RSpan) M1 x2, PEq (.int .i64 k1), PA (RSlice RSpan) M1 x3, PV (RSlice RSpan) M1 x3, PEq (.int .i64 k1), PEq (.int .i64 x4)] (by kernel_rfl) Z (by kernel_rfl) ⟨Zq, PA.mono _ _ _, PV.mono _ _ _, Zq, PA.mono _ _ _, PV.mono _ _ _, Zq, Zq, trivial⟩ ⟨?_, ?_, ?_, ?_, ?_, ?_, ?_, ?_, trivial⟩ ?_)
    ·
     intro w6 D hS1 hd1
     exact Zs (E' := [(5, (.int .i64 k1))]) ⟨Z, trivial⟩ (Zp Z (Zm Z Z Zb))
    ·
     intro w7 D hS2 hd2
     have hl7 := Le.no M1 hS2
     exact Zs (E' := [(11, (.int .i64 k1)), (2, (.pointer (some p1)))]) ⟨(dpE hd2 0 Z Z), Z, trivial⟩ (Zp Z (ow_indexArr (R := (RSlice RSpan)) Z Z Z (ARep.mono (lz2.trans hl7) hp1) Tryd.underlying131 (Tryd.sizeOf121 _) hx2 fun p5 hp5 => ⟨BX.refl _ _, ⟨_, Z, hp5⟩⟩))
    ·
     intro w8 D hS3 hd3
     have d2 : PA (RSlice RSpan) M1 x2 (D 1) w8 := dpA hd3 1 Z
     obtain ⟨p6, e1, ha1⟩ := d2
     exact Zs (E' := [(12, (.pointer (some p6)))]) ⟨(congrArg some e1), trivial⟩ (Zp Z (Zl (R := (RSlice RSpan)) Z Z ha1 (Tryd.sizeOf121 _) (Tryd.isAgg121 _) fun v7 hv7 => ⟨BX.refl _ _, hv7⟩))
    ·
     intro w9 D hS4 hd4
     exact Zs (E' := [(5, (.int .i64 k1))]) ⟨Z, trivial⟩ (Zp Z (Zm Z Z Zb))
    ·
     intro w10 D hS5 hd5
     have hl10 := Le.no M1 hS5
     exact Zs (E' := [(14, (.int .i64 k1)), (3, (.pointer (some p2)))]) ⟨(dpE hd5 3 Z Z), Z, trivial⟩ (Zp Z (ow_indexArr (R := (RSlice RSpan)) Z Z Z (ARep.mono (lz3.trans hl10) hp2) Tryd.underlying131 (Tryd.sizeOf121 _) hx3 fun p7 hp7 => ⟨BX.refl _ _, ⟨_, Z, hp7⟩⟩))
    ·
     intro w11 D hS6 hd6
     have d4 : PA (RSlice RSpan) M1 x3 (D 4) w11 := dpA hd6 4 Z
     obtain ⟨p8, e2, ha2⟩ := d4
     exact Zs (E' := [(15, (.pointer (some p8)))]) ⟨(congrArg some e2), trivial⟩ (Zp Z (Zl (R := (RSlice RSpan)) Z Z ha2 (Tryd.sizeOf121 _) (Tryd.isAgg121 _) fun v8 hv8 => ⟨BX.refl _ _, hv8⟩))
    ·
     intro w12 D hS7 hd7
     exact Zs (E' := [(5, (.int .i64 k1))]) ⟨Z, trivial⟩ (Zp Z (Zm Z Z Zb))
    ·
     intro w13 D hS8 hd8
     have hl13 := Le.no M1 hS8
     have hC13 := hC4.no hS8
     refine Zs (E' := [(17, (.int .i64 k1))]) ⟨(dpE hd8 6 Z Z), trivial⟩ (Zp Z (Zk Z Z Tryd.call142 (w_impl_FieldTop (hG.mono (lz1.trans hl13)) hC13.old hx4) fun v9 w14 hv9 => ?_))
     obtain ⟨hv9, hb6⟩ := hv9
     obtain rfl := Zi hv9
     exact ⟨hb6, Z⟩
    ·
     intro w15 D hS9 hd9
     have d8 : PV (RSlice RSpan) M1 x2 (D 2) w15 := dpA hd9 2 Z
     have d11 : PV (RSlice RSpan) M1 x3 (D 5) w15 := dpA hd9 5 Z
     have hl15 := Le.no M1 hS9
     have hC15 := hC4.no hS9
     generalize hq1 : (D 2) = v10 at d8
     generalize hq2 : (D 5) = v11 at d11
     refine lw_sub (E' := [(13, v10), (16, v11), (18, (.int .i64 x4)), (2, (.pointer (some p1))), (3, (.pointer (some p2))), (5, (.int .i64 k1)), (8, (.int .i64 k1))]) ⟨(congrArg some hq1), (congrArg some hq2), (dpE hd9 7 Z Z), Z, Z, Z, Z, trivial⟩ ?_
     replace hb4 := bind_some hb4
     obtain ⟨x5, hx5, hb4⟩ := hb4
     refine Zo Z Z Z (Zk Z Z Tryd.call169 (w_impl_sweepSpans__impl_inFirstOnly (hG.mono (lz1.trans hl15)) hC15.old d8 d11 hx5) fun v12 w16 hv12 => ?_)
     obtain ⟨hv12, hb7⟩ := hv12
     have hl16 := Le.no M1 hb7
     have hC16 := hC15.no hb7
     refine Zo Z Z Z (ow_len Z Z hv12 Tryd.underlying121 Z (Zo Z Z Z (ow_gtr Z Z Z fun bb2 hbb2 => Zn (Ze ?_))))
     replace hb4 := Zc hb4
     rcases hb4 with ⟨hc3, hb4⟩ | ⟨hc3, hb4⟩
     ·
      obtain rfl := hbb2.trans hc3
      refine Zt Z (cw_seq (Zr (Zo Z Z Z (Za Z Z (Zn (Ze (Zy (ew_blockR (Zh (Zh (ew_blockR (ew_brkR (Zh ?_)))))))))))))
      have e3 := hR1 _ (sj hb4).symm
      subst e3
      obtain rfl := sj h
      exact ew_ret (res1 Z (.tmp Z)) ⟨_, Z, ((vbool _)), hC16.bx⟩
     ·
      obtain rfl := hbb2.trans hc3
      refine Zu Z (cw_skip (ew_blockN (Ze (Zr (Zo Z Z Z (ow_add Z Z Z (Zo Z Z Z (Zm Z Z (Zn ?_)))))))))
      have lz4 := ((hl4.trans hl15).trans hl16)
      exact ew_nxt (W (k1 + 1)) hb4 fun a ha => ⟨M1, (ha.sub ⟨Z, Z, Z, trivial⟩), lz4, hC16⟩
   ·
    obtain rfl := hbb1.trans hc2
    exact Zu Z (cw_exit (ew_thenX (ew_thenX (ew_blockX (ew_brk k1 hb4 fun a ha => ⟨M1, (ha.sub ⟨Z, Z, Z, trivial⟩), hl4, hC4⟩)))))
  ·
   rintro k2 a w17 hlr2 ⟨M2, hF2, hl17, hC17⟩
   subst hlr2
   refine ew_at (E := [(2, (.pointer (some p1))), (3, (.pointer (some p2))), (8, (.int .i64 k2))]) hF2 (Ze (cw_seq (Zr (Zo Z Z Z (Za Z Z (Zn (Ze (Zy ?_))))))))
   obtain rfl := sj h
   exact ew_ret (res1 Z (.tmp Z)) ⟨_, Z, ((vbool _)), hC17.bx⟩

theorem w_impl_BoxWithin {w : World} {M : Nat → Prop} (hG : ARep (RArr 4 RShape) w M shapes ⟨0, 0, none⟩) (hO : ∀ b, M b → b < w.heap.size) {v0p : Value} {a_a : Box} (h0 : VRep RBox w M a_a v0p) {v1p : Value} {a_b : Box} (h1 : VRep RBox w M a_b v1p) {r : Bool} (h : F.impl_BoxWithin a_a a_b = some r) :
  Calls Tryd.prog 69 [v0p, v1p].toArray w fun e w' => ∃ v, e = .returned v ∧ VRep RBool w' M r v ∧ BX No w w' := by
 have hC : Cx No w M w M := Cx.start hO (fun _ e => e.elim)
 refine walk (N := 18) Tryd.func69 Z Tryd.ntmps69 Z (cw_seq (Zr (Zo Z Z Z (ow_box (R := RBox) Z Z h0 hC fun p1 w1 hp1 hb1 hl1 hC1 => Zo Z Z Z (ow_box (R := RBox) Z Z (VRep.mono hl1 h1) hC1 fun p2 w2 hp2 hb2 hl2 hC2 => Zo Z Z Z (Za Z Z (Zn (Ze (cw_seq ?_)))))))))
 replace h := bind_some h
 obtain ⟨x1, hx1, h⟩ := h
 replace h := Zc h
 rcases h with ⟨hc1, h⟩ | ⟨hc1, h⟩
 ·
  subst hc1
  replace h := bind_some h
  obtain ⟨x2, hx2, h⟩ := h
  replace h := Zc h
  rcases h with ⟨hc2, h⟩ | ⟨hc2, h⟩
  ·
   subst hc2
   replace h := bind_some h
   obtain ⟨x3, hx3, h⟩ := h
   have lz1 := (hl1.trans hl2)
   refine cw_sub (E' := [(2, (.pointer (some p1))), (3, (.pointer (some p2))), (4, (.bool false))]) ⟨Z, Z, Z, trivial⟩ (cw_drawQ 10 [PV RBox M a_a, PEq (.bool true), PEq (.bool true), PV RBox M a_b, PEq (.bool true), PEq (.bool true), PEq (.bool true), PV RBox M a_a, PV (RArr 4 (RSlice RSpan)) M x3, PV RBox M a_b] (by kernel_rfl) Z (by kernel_rfl) ⟨PV.mono _ _ _, Zq, Zq, PV.mono _ _ _, Zq, Zq, Zq, PV.mono _ _ _, PV.mono _ _ _, PV.mono _ _ _, trivial⟩ ⟨?_, ?_, ?_, ?_, ?_, ?_, ?_, ?_, ?_, ?_, trivial⟩ ?_)
   ·
    intro w6 D hS1 hd1
    have hl6 := Le.no M hS1
    exact Zs (E' := [(2, (.pointer (some p1)))]) ⟨Z, trivial⟩ (Zp Z (Zl (R := RBox) Z Z (ARep.mono (hl2.trans hl6) hp1) (Tryd.sizeOf48 _) (Tryd.isAgg48 _) fun v8 hv8 => ⟨BX.refl _ _, hv8⟩))
   ·
    intro w7 D hS2 hd2
    have hl7 := Le.no M hS2
    have hC7 := hC2.no hS2
    have d1 : PV RBox M a_a (D 0) w7 := dpA hd2 0 Z
    generalize hq1 : (D 0) = v9 at d1
    refine Zs (E' := [(5, v9)]) ⟨(congrArg some hq1), trivial⟩ (Zp Z (Zk Z Z Tryd.call90 (w_impl_BoxValid (hG.mono (lz1.trans hl7)) hC7.old d1 hx1) fun v10 w8 hv10 => ?_))
    obtain ⟨hv10, hb6⟩ := hv10
    obtain rfl := vbool_eq hv10
    exact ⟨hb6, Z⟩
   ·
    intro w9 D hS3 hd3
    exact Zs (E' := [(6, (.bool true))]) ⟨(dpE hd3 1 Z Z), trivial⟩ (Zp Z (Zm Z Z Zb))
   ·
    intro w10 D hS4 hd4
    have hl10 := Le.no M hS4
    exact Zs (E' := [(7, (.bool true)), (3, (.pointer (some p2)))]) ⟨(dpE hd4 2 Z Z), Z, trivial⟩ (dg_on Z Z Z Z (Zl (R := RBox) Z Z (ARep.mono hl10 hp2) (Tryd.sizeOf48 _) (Tryd.isAgg48 _) fun v11 hv11 => ⟨BX.refl _ _, hv11⟩))
   ·
    intro w11 D hS5 hd5
    have hl11 := Le.no M hS5
    have hC11 := hC2.no hS5
    have d5 : PV RBox M a_b (D 3) w11 := dpA hd5 3 Z
    generalize hq2 : (D 3) = v12 at d5
    refine Zs (E' := [(8, v12), (7, (.bool true))]) ⟨(congrArg some hq2), (dpE hd5 2 Z Z), trivial⟩ (dg_on Z Z Z Z (Zk Z Z Tryd.call90 (w_impl_BoxValid (hG.mono (lz1.trans hl11)) hC11.old d5 hx2) fun v13 w12 hv13 => ?_))
    obtain ⟨hv13, hb7⟩ := hv13
    obtain rfl := vbool_eq hv13
    exact ⟨hb7, Z⟩
   ·
    intro w13 D hS6 hd6
    exact Zs (E' := [(7, (.bool true)), (9, (.bool true))]) ⟨(dpE hd6 2 Z Z), (dpE hd6 4 Z Z), trivial⟩ (Zp Z (ow_pickT Z Z Z Zb))
   ·
    intro w14 D hS7 hd7
    exact Zs (E' := [(10, (.bool true))]) ⟨(dpE hd7 5 Z Z), trivial⟩ (Zp Z (Zm Z Z Zb))
   ·
    intro w15 D hS8 hd8
    have hl15 := Le.no M hS8
    exact Zs (E' := [(11, (.bool true)), (2, (.pointer (some p1)))]) ⟨(dpE hd8 6 Z Z), Z, trivial⟩ (dg_on Z Z Z Z (Zl (R := RBox) Z Z (ARep.mono (hl2.trans hl15) hp1) (Tryd.sizeOf48 _) (Tryd.isAgg48 _) fun v14 hv14 => ⟨BX.refl _ _, hv14⟩))
   ·
    intro w16 D hS9 hd9
    have hl16 := Le.no M hS9
    have hC16 := hC2.no hS9
    have d13 : PV RBox M a_a (D 7) w16 := dpA hd9 7 Z
    generalize hq3 : (D 7) = v15 at d13
    refine Zs (E' := [(12, v15), (11, (.bool true))]) ⟨(congrArg some hq3), (dpE hd9 6 Z Z), trivial⟩ (dg_on Z Z Z Z (Zk Z Z Tryd.call91 (w_impl_sidesOf (hG.mono (lz1.trans hl16)) hC16.old d13 hx3) fun v16 w17 hv16 => ?_))
    obtain ⟨hv16, hb8⟩ := hv16
    exact ⟨hb8, hv16⟩
   ·
    intro w18 D hS10 hd10
    have hl18 := Le.no M hS10
    exact Zs (E' := [(11, (.bool true)), (3, (.pointer (some p2)))]) ⟨(dpE hd10 6 Z Z), Z, trivial⟩ (dg_on Z Z Z Z (Zl (R := RBox) Z Z (ARep.mono hl18 hp2) (Tryd.sizeOf48 _) (Tryd.isAgg48 _) fun v17 hv17 => ⟨BX.refl _ _, hv17⟩))
   ·
    intro w19 D hS11 hd11
    have d25 : PV (RArr 4 (RSlice RSpan)) M x3 (D 8) w19 := dpA hd11 8 Z
    have d26 : PV RBox M a_b (D 9) w19 := dpA hd11 9 Z
    have hl19 := Le.no M hS11
    have hC19 := hC2.no hS11
    generalize hq4 : (D 8) = v18 at d25
    generalize hq5 : (D 9) = v19 at d26
    refine lw_sub (E' := [(11, (.bool true)), (13, v18), (14, v19), (2, (.pointer (some p1))), (3, (.pointer (some p2))), (4, (.bool false))]) ⟨(dpE hd11 6 Z Z), (congrArg some hq4), (congrArg some hq5), Z, Z, Z, trivial⟩ ?_
    replace h := bind_some h
    obtain ⟨x4, hx4, h⟩ := h
    refine lw_on Z Z Z Z Z Z (Zk Z Z Tryd.call91 (w_impl_sidesOf (hG.mono (lz1.trans hl19)) hC19.old d26 hx4) fun v20 w20 hv20 => ?_)
    obtain ⟨hv20, hb9⟩ := hv20
    have hl20 := Le.no M hb9
    have hC20 := hC19.no hb9
    replace h := bind_some h
    obtain ⟨x5, hx5, h⟩ := h
    have lz2 := ((lz1.trans hl19).trans hl20)
    refine lw_on Z Z Z Z Z Z (Zk Z Z Tryd.call132 (w_impl_sides_within (hG.mono lz2) hC20.old (VRep.mono hl20 d25) hv20 hx5) fun v21 w21 hv21 => ?_)
    obtain ⟨hv21, hb10⟩ := hv21
    have hC21 := hC20.no hb10
    obtain rfl := vbool_eq hv21
    refine Zo Z Z Z (ow_pickT Z Z Z (Zo Z Z Z (Za Z Z (Zn (Ze (Zy ?_))))))
    obtain rfl := sj h
    exact ew_ret (res1 Z (.tmp Z)) ⟨_, Z, ((vbool _)), hC21.bx⟩
  ·
   subst hc2
   have lz3 := (hl1.trans hl2)
   refine cw_sub (E' := [(2, (.pointer (some p1))), (3, (.pointer (some p2))), (4, (.bool false))]) ⟨Z, Z, Z, trivial⟩ (cw_drawQ 10 [PV RBox M a_a, PEq (.bool true), PEq (.bool true), PV RBox M a_b, PEq (.bool false), PEq (.bool false), PEq (.bool false), PEq undef, PEq undef, PEq undef] (by kernel_rfl) Z (by kernel_rfl) ⟨PV.mono _ _ _, Zq, Zq, PV.mono _ _ _, Zq, Zq, Zq, Zq, Zq, Zq, trivial⟩ ⟨?_, ?_, ?_, ?_, ?_, ?_, ?_, ?_, ?_, ?_, trivial⟩ ?_)
   ·
    intro w22 D hS12 hd12
    have hl22 := Le.no M hS12
    exact Zs (E' := [(2, (.pointer (some p1)))]) ⟨Z, trivial⟩ (Zp Z (Zl (R := RBox) Z Z (ARep.mono (hl2.trans hl22) hp1) (Tryd.sizeOf48 _) (Tryd.isAgg48 _) fun v22 hv22 => ⟨BX.refl _ _, hv22⟩))
   ·
    intro w23 D hS13 hd13
    have hl23 := Le.no M hS13
    have hC23 := hC2.no hS13
    have d27 : PV RBox M a_a (D 0) w23 := dpA hd13 0 Z
    generalize hq6 : (D 0) = v23 at d27
    refine Zs (E' := [(5, v23)]) ⟨(congrArg some hq6), trivial⟩ (Zp Z (Zk Z Z Tryd.call90 (w_impl_BoxValid (hG.mono (lz3.trans hl23)) hC23.old d27 hx1) fun v24 w24 hv24 => ?_))
    obtain ⟨hv24, hb11⟩ := hv24
    obtain rfl := vbool_eq hv24
    exact ⟨hb11, Z⟩
   ·
    intro w25 D hS14 hd14
    exact Zs (E' := [(6, (.bool true))]) ⟨(dpE hd14 1 Z Z), trivial⟩ (Zp Z (Zm Z Z Zb))
   ·
    intro w26 D hS15 hd15
    have hl26 := Le.no M hS15
    exact Zs (E' := [(7, (.bool true)), (3, (.pointer (some p2)))]) ⟨(dpE hd15 2 Z Z), Z, trivial⟩ (dg_on Z Z Z Z (Zl (R := RBox) Z Z (ARep.mono hl26 hp2) (Tryd.sizeOf48 _) (Tryd.isAgg48 _) fun v25 hv25 => ⟨BX.refl _ _, hv25⟩))
   ·
    intro w27 D hS16 hd16
    have hl27 := Le.no M hS16
    have hC27 := hC2.no hS16
    have d31 : PV RBox M a_b (D 3) w27 := dpA hd16 3 Z
    generalize hq7 : (D 3) = v26 at d31
    refine Zs (E' := [(8, v26), (7, (.bool true))]) ⟨(congrArg some hq7), (dpE hd16 2 Z Z), trivial⟩ (dg_on Z Z Z Z (Zk Z Z Tryd.call90 (w_impl_BoxValid (hG.mono (lz3.trans hl27)) hC27.old d31 hx2) fun v27 w28 hv27 => ?_))
    obtain ⟨hv27, hb12⟩ := hv27
    obtain rfl := vbool_eq hv27
    exact ⟨hb12, Z⟩
   ·
    intro w29 D hS17 hd17
    exact Zs (E' := [(7, (.bool true)), (9, (.bool false))]) ⟨(dpE hd17 2 Z Z), (dpE hd17 4 Z Z), trivial⟩ (Zp Z (ow_pickT Z Z Z Zb))
   ·
    intro w30 D hS18 hd18
    exact Zs (E' := [(10, (.bool false))]) ⟨(dpE hd18 5 Z Z), trivial⟩ (Zp Z (Zm Z Z Zb))
   ·
    intro w31 D hS19 hd19
    exact Zs (E' := [(11, (.bool false)), (2, (.pointer (some p1)))]) ⟨(dpE hd19 6 Z Z), Z, trivial⟩ (dg_off Z Z Z Z Zb)
   ·
    intro w32 D hS20 hd20
    exact Zs (E' := [(12, undef), (11, (.bool false))]) ⟨(dpE hd20 7 Z Z), (dpE hd20 6 Z Z), trivial⟩ (dg_off Z Z Z Z Zb)
   ·
    intro w33 D hS21 hd21
    exact Zs (E' := [(11, (.bool false)), (3, (.pointer (some p2)))]) ⟨(dpE hd21 6 Z Z), Z, trivial⟩ (dg_off Z Z Z Z Zb)
   ·
    intro w34 D hS22 hd22
    have hC34 := hC2.no hS22
    refine lw_sub (E' := [(11, (.bool false)), (13, undef), (14, undef), (2, (.pointer (some p1))), (3, (.pointer (some p2))), (4, (.bool false))]) ⟨(dpE hd22 6 Z Z), (dpE hd22 8 Z Z), (dpE hd22 9 Z Z), Z, Z, Z, trivial⟩ (lw_off Z Z Z Z Z Z (lw_off Z Z Z Z Z Z (Zo Z Z Z (ow_pickF Z Z Z (Zo Z Z Z (Za Z Z (Zn (Ze (Zy ?_)))))))))
    obtain rfl := sj h
    exact ew_ret (res1 Z (.tmp Z)) ⟨_, Z, ((vbool _)), hC34.bx⟩
 ·
  subst hc1
  have lz4 := (hl1.trans hl2)
  refine cw_sub (E' := [(2, (.pointer (some p1))), (3, (.pointer (some p2))), (4, (.bool false))]) ⟨Z, Z, Z, trivial⟩ (cw_drawQ 10 [PV RBox M a_a, PEq (.bool false), PEq (.bool false), PEq undef, PEq undef, PEq (.bool false), PEq (.bool false), PEq undef, PEq undef, PEq undef] (by kernel_rfl) Z (by kernel_rfl) ⟨PV.mono _ _ _, Zq, Zq, Zq, Zq, Zq, Zq, Zq, Zq, Zq, trivial⟩ ⟨?_, ?_, ?_, ?_, ?_, ?_, ?_, ?_, ?_, ?_, trivial⟩ ?_)
  ·
   intro w35 D hS23 hd23
   have hl35 := Le.no M hS23
   exact Zs (E' := [(2, (.pointer (some p1)))]) ⟨Z, trivial⟩ (Zp Z (Zl (R := RBox) Z Z (ARep.mono (hl2.trans hl35) hp1) (Tryd.sizeOf48 _) (Tryd.isAgg48 _) fun v28 hv28 => ⟨BX.refl _ _, hv28⟩))
  ·
   intro w36 D hS24 hd24
   have hl36 := Le.no M hS24
   have hC36 := hC2.no hS24
   have d53 : PV RBox M a_a (D 0) w36 := dpA hd24 0 Z
   generalize hq8 : (D 0) = v29 at d53
   refine Zs (E' := [(5, v29)]) ⟨(congrArg some hq8), trivial⟩ (Zp Z (Zk Z Z Tryd.call90 (w_impl_BoxValid (hG.mono (lz4.trans hl36)) hC36.old d53 hx1) fun v30 w37 hv30 => ?_))
   obtain ⟨hv30, hb13⟩ := hv30
   obtain rfl := vbool_eq hv30
   exact ⟨hb13, Z⟩
  ·
   intro w38 D hS25 hd25
   exact Zs (E' := [(6, (.bool false))]) ⟨(dpE hd25 1 Z Z), trivial⟩ (Zp Z (Zm Z Z Zb))
  ·
   intro w39 D hS26 hd26
   exact Zs (E' := [(7, (.bool false)), (3, (.pointer (some p2)))]) ⟨(dpE hd26 2 Z Z), Z, trivial⟩ (dg_off Z Z Z Z Zb)
  ·
   intro w40 D hS27 hd27
   exact Zs (E' := [(8, undef), (7, (.bool false))]) ⟨(dpE hd27 3 Z Z), (dpE hd27 2 Z Z), trivial⟩ (dg_off Z Z Z Z Zb)
  ·
   intro w41 D hS28 hd28
   exact Zs (E' := [(7, (.bool false)), (9, undef)]) ⟨(dpE hd28 2 Z Z), (dpE hd28 4 Z Z), trivial⟩ (Zp Z (ow_pickF Z Z Z Zb))
  ·
   intro w42 D hS29 hd29
   exact Zs (E' := [(10, (.bool false))]) ⟨(dpE hd29 5 Z Z), trivial⟩ (Zp Z (Zm Z Z Zb))
  ·
   intro w43 D hS30 hd30
   exact Zs (E' := [(11, (.bool false)), (2, (.pointer (some p1)))]) ⟨(dpE hd30 6 Z Z), Z, trivial⟩ (dg_off Z Z Z Z Zb)
  ·
   intro w44 D hS31 hd31
   exact Zs (E' := [(12, undef), (11, (.bool false))]) ⟨(dpE hd31 7 Z Z), (dpE hd31 6 Z Z), trivial⟩ (dg_off Z Z Z Z Zb)
  ·
   intro w45 D hS32 hd32
   exact Zs (E' := [(11, (.bool false)), (3, (.pointer (some p2)))]) ⟨(dpE hd32 6 Z Z), Z, trivial⟩ (dg_off Z Z Z Z Zb)
  ·
   intro w46 D hS33 hd33
   have hC46 := hC2.no hS33
   refine lw_sub (E' := [(11, (.bool false)), (13, undef), (14, undef), (2, (.pointer (some p1))), (3, (.pointer (some p2))), (4, (.bool false))]) ⟨(dpE hd33 6 Z Z), (dpE hd33 8 Z Z), (dpE hd33 9 Z Z), Z, Z, Z, trivial⟩ (lw_off Z Z Z Z Z Z (lw_off Z Z Z Z Z Z (Zo Z Z Z (ow_pickF Z Z Z (Zo Z Z Z (Za Z Z (Zn (Ze (Zy ?_)))))))))
   obtain rfl := sj h
   exact ew_ret (res1 Z (.tmp Z)) ⟨_, Z, ((vbool _)), hC46.bx⟩

theorem w_spec_l10Empty {w : World} {M : Nat → Prop} (_hG : ARep (RArr 4 RShape) w M shapes ⟨0, 0, none⟩) (hO : ∀ b, M b → b < w.heap.size) {v0p : Value} {a_b : Box} (h0 : VRep RBox w M a_b v0p) {r : Bool} (h : F.spec_l10Empty a_b = some r) :
  Calls Tryd.prog 87 [v0p].toArray w fun e w' => ∃ v, e = .returned v ∧ VRep RBool w' M r v ∧ BX No w w' := by
 have hC : Cx No w M w M := Cx.start hO (fun _ e => e.elim)
 clear _hG
 refine walk (N := 18) Tryd.func87 Z Tryd.ntmps87 Z (cw_seq (Zr (Zo Z Z Z (ow_box (R := RBox) Z Z h0 hC fun p1 w1 hp1 hb1 hl1 hC1 => Zo Z Z Z (Za Z Z (Zn (Ze (cw_seq (cw_seq (Zr (Zo Z Z Z (Za Z Z (Zn (Ze ?_))))))))))))))
 replace h := bind_some h
 obtain ⟨lr1, hlr1, h⟩ := h
 refine cw_for hlr1 (fun s a w' => ∃ (M' : Nat → Prop), Fits 18 [(1, (.pointer (some p1))), (3, (.int .i64 s))] a ∧ Le w1 M w' M' ∧ Cx No w M w' M') ?_ ?_ ?_
 ·
  intro a ha
  exact ⟨M, ha.sub ⟨Z, Z, trivial⟩, Le.refl _ _, hC1⟩
 ·
  rintro k1 a w2 sr1 ⟨M1, hF1, hl2, hC2⟩ hb2 hR1
  refine cw_at (E := [(1, (.pointer (some p1))), (3, (.int .i64 k1))]) hF1 (cw_seq (cw_seq (Zr (Zo Z Z Z (Zm Z Z (Zo Z Z Z (Zf Z Z Tryd.underlying48 Z (Tryd.sizeOf46 _) (Zo Z Z Z (Zl (R := (RSlice (RSlice RSpan))) Z Z (ARep.mono hl2 (hp1.fld fld_Box_Sides)) (Tryd.sizeOf46 _) (Tryd.isAgg46 _) fun v2 hv2 => Zo Z Z Z (ow_len Z Z hv2 Tryd.underlying46 Z (Zo Z Z Z (ow_lss Z Z Z fun bb1 hbb1 => Zn (Ze ?_)))))))))))))
  replace hb2 := Zc hb2
  rcases hb2 with ⟨hc1, hb2⟩ | ⟨hc1, hb2⟩
  ·
   obtain rfl := hbb1.trans hc1
   refine Zt Z (cw_skip (Ze (cw_seq (cw_block (cw_seq (Zr (Zo Z Z Z (Zf Z Z Tryd.underlying48 Z (Tryd.sizeOf46 _) (Zo Z Z Z (Zl (R := (RSlice (RSlice RSpan))) Z Z (ARep.mono hl2 (hp1.fld fld_Box_Sides)) (Tryd.sizeOf46 _) (Tryd.isAgg46 _) fun v3 hv3 => Zo Z Z Z (Zm Z Z ?_)))))))))))
   replace hb2 := bind_some hb2
   obtain ⟨x1, hx1, hb2⟩ := hb2
   refine Zo Z Z Z (Zx (R := (RSlice RSpan)) Z Z Z hv3 Tryd.underlying46 (Tryd.sizeOf121 _) hx1 fun p2 hp2 => Zo Z Z Z (Zl (R := (RSlice RSpan)) Z Z hp2 (Tryd.sizeOf121 _) (Tryd.isAgg121 _) fun v4 hv4 => Zo Z Z Z (ow_len Z Z hv4 Tryd.underlying121 Z (Zo Z Z Z (ow_eqlI Z Z Z fun bb2 hbb2 => Zn (Ze ?_))))))
   replace hb2 := Zc hb2
   rcases hb2 with ⟨hc2, hb2⟩ | ⟨hc2, hb2⟩
   ·
    obtain rfl := hbb2.trans hc2
    refine Zt Z (cw_seq (Zr (Zo Z Z Z (Za Z Z (Zn (Ze (Zy (ew_blockR (Zh (Zh (ew_blockR (ew_brkR (Zh ?_)))))))))))))
    have e1 := hR1 _ (sj hb2).symm
    subst e1
    obtain rfl := sj h
    exact ew_ret (res1 Z (.tmp Z)) ⟨_, Z, ((vbool _)), hC2.bx⟩
   ·
    obtain rfl := hbb2.trans hc2
    exact Zu Z (cw_skip (ew_blockN (Ze (Zr (Zo Z Z Z (Zm Z Z (Zo Z Z Z (ow_add Z Z Z (Zo Z Z Z (Za Z Z (Zn (ew_nxt (W (k1 + 1)) hb2 fun a ha => ⟨M1, (ha.sub ⟨Z, Z, trivial⟩), hl2, hC2⟩))))))))))))
  ·
   obtain rfl := hbb1.trans hc1
   exact Zu Z (cw_exit (ew_thenX (ew_thenX (ew_blockX (ew_brk k1 hb2 fun a ha => ⟨M1, (ha.sub ⟨Z, Z, trivial⟩), hl2, hC2⟩)))))
 ·
  rintro k2 a w3 hlr2 ⟨M2, hF2, hl3, hC3⟩
  subst hlr2
  refine ew_at (E := [(1, (.pointer (some p1))), (3, (.int .i64 k2))]) hF2 (Ze (cw_seq (Zr (Zo Z Z Z (Za Z Z (Zn (Ze (Zy ?_))))))))
  obtain rfl := sj h
  exact ew_ret (res1 Z (.tmp Z)) ⟨_, Z, ((vbool _)), hC3.bx⟩

theorem w_spec_l11Cut {w : World} {M : Nat → Prop} (hG : ARep (RArr 4 RShape) w M shapes ⟨0, 0, none⟩) (hO : ∀ b, M b → b < w.heap.size) {v0p : Value} {a_a : Box} (h0 : VRep RBox w M a_a v0p) {v1p : Value} {a_b : Box} (h1 : VRep RBox w M a_b v1p) {r : (List Box)} (h : F.spec_l11Cut a_a a_b = some r) :
  Calls Tryd.prog 124 [v0p, v1p].toArray w fun e w' => ∃ v, e = .returned v ∧ VRep (RSlice RBox) w' M r v ∧ BX No w w' := by
 obtain ⟨i48, hi48, hz48, hs48, hy48⟩ := info48
 have hC : Cx No w M w M := Cx.start hO (fun _ e => e.elim)
 refine walk (N := 82) Tryd.func124 Z Tryd.ntmps124 Z (cw_seq (Zr (Zo Z Z Z (ow_box (R := RBox) Z Z h0 hC fun p1 w1 hp1 hb1 hl1 hC1 => Zo Z Z Z (ow_box (R := RBox) Z Z (VRep.mono hl1 h1) hC1 fun p2 w2 hp2 hb2 hl2 hC2 => Zo Z Z Z (Za Z Z (Zn (Ze (cw_seq (Zr (Zo Z Z Z (ow_buildSlice0 (R := RBox) (e := 48) Z (by kernel_rfl) hC2 fun p3 w3 M1 hr1 hb3 hl3 hC3 hM1 hat1 => Zo Z Z Z (Za Z Z (Zn (Ze (cw_seq (cw_seq (Zr (Zo Z Z Z (Zl (R := RBox) Z Z (ARep.mono (hl2.trans hl3) hp1) (Tryd.sizeOf48 _) (Tryd.isAgg48 _) fun v1 hv1 => Zo Z Z Z (Zl (R := RBox) Z Z (ARep.mono hl3 hp2) (Tryd.sizeOf48 _) (Tryd.isAgg48 _) fun v2 hv2 => ?_)))))))))))))))))))))
 replace h := bind_some h
 obtain ⟨x1, hx1, h⟩ := h
 have lz1 := ((hl1.trans hl2).trans hl3)
 refine Zo Z Z Z (Zk Z Z Tryd.call97 (w_spec_l10Meet (hG.mono lz1) hC3.old hv1 hv2 hx1) fun v3 w4 hv3 => ?_)
 obtain ⟨hv3, hb4⟩ := hv3
 have hl4 := Le.no M1 hb4
 have hC4 := hC3.no hb4
 have hr2 := hr1.no hb4
 replace h := bind_some h
 obtain ⟨x2, hx2, h⟩ := h
 refine Zo Z Z Z (Zk Z Z Tryd.call87 (w_spec_l10Empty (hG.mono (lz1.trans hl4)) hC4.old hv3 hx2) fun v4 w5 hv4 => ?_)
 obtain ⟨hv4, hb5⟩ := hv4
 have hl5 := Le.no M1 hb5
 have hC5 := hC4.no hb5
 have hr3 := hr2.no hb5
 obtain rfl := vbool_eq hv4
 refine Zn (Ze ?_)
 replace h := Zc h
 rcases h with ⟨hc1, h⟩ | ⟨hc1, h⟩
 ·
  subst hc1
  refine Zt Z (cw_seq (cw_seq (Zr ?_)))
  have lz2 := (((hl2.trans hl3).trans hl4).trans hl5)
  refine Zo Z Z Z (Zl (R := RBox) Z Z (ARep.mono lz2 hp1) (Tryd.sizeOf48 _) (Tryd.isAgg48 _) fun v5 hv5 => ?_)
  replace h := bind_some h
  obtain ⟨x3, hx3, h⟩ := h
  have lz3 := ((lz1.trans hl4).trans hl5)
  refine Zo Z Z Z (Zk Z Z Tryd.call87 (w_spec_l10Empty (hG.mono lz3) hC5.old hv5 hx3) fun v6 w6 hv6 => ?_)
  obtain ⟨hv6, hb6⟩ := hv6
  have hl6 := Le.no M1 hb6
  have hC6 := hC5.no hb6
  have hr4 := hr3.no hb6
  obtain rfl := vbool_eq hv6
  refine Zo Z Z Z (ow_not Z Z (Zn (Ze ?_)))
  replace h := Zc h
  rcases h with ⟨hc2, h⟩ | ⟨hc2, h⟩
  ·
   subst hc2
   refine Zu Z (cw_skip (Ze (cw_seq (Zr (Zo Z Z Z (Zm Z Z (Zo Z Z Z (Za Z Z (Zn (Ze (Zy (Zh ?_))))))))))))
   obtain rfl := sj h
   exact ew_ret (res1 Z (.tmp Z)) ⟨_, Z, (hr4.freezeBack hC6 hO), hC6.bx⟩
  ·
   subst hc2
   refine Zt Z (Zr (Zo Z Z Z (Zm Z Z (Zo Z Z Z (Zl (R := RBox) Z Z (ARep.mono (lz2.trans hl6) hp1) (Tryd.sizeOf48 _) (Tryd.isAgg48 _) fun v7 hv7 => ?_)))))
   obtain ⟨A1, c1, rfl, hw1⟩ := open_Box hv7
   refine Zo Z Z Z (ow_buildSlice (R := RBox) (xs := [a_a]) (cs := #[(.slice A1 a_a.Sides.length c1)]) (e := 48) Z Z (by kernel_rfl) Z Z ⟨_, _, Z, hv7.cells, Z⟩ hC6 fun p4 w7 hw2 hb7 hl7 hC7 => ?_)
   have hr5 := hr4.no hb7
   replace h := bind_some h
   obtain ⟨z1, hz1, h⟩ := h
   refine Zo Z Z Z (ow_append (R := RBox) Z Z Z Z Tryd.underlying64 hi48 hz48 hs48 hy48 Z Z Z Z hr5 hw2 hz1 hC7 fun v8 w8 M2 hr6 hb8 hl8 hC8 hM2 hat2 => Zo Z Z Z (Za Z Z (Zn (Ze (cw_seq (Zr (Zo Z Z Z (Zm Z Z (Zo Z Z Z (Za Z Z (Zn (Ze (Zy (Zh ?_))))))))))))))
   obtain rfl := sj h
   exact ew_ret (res1 Z (.tmp Z)) ⟨_, Z, (hr6.freezeBack hC8 hO), hC8.bx⟩
 ·
  subst hc1
  refine Zu Z (cw_skip (Ze (cw_seq (Zr ?_))))
  have lz4 := (((hl2.trans hl3).trans hl4).trans hl5)
  refine Zo Z Z Z (Zl (R := RBox) Z Z (ARep.mono lz4 hp1) (Tryd.sizeOf48 _) (Tryd.isAgg48 _) fun v9 hv9 => Zo Z Z Z (ow_alloc Z (Tryd.zeroValue48 _) hC5 fun g1 w9 hg1 hg2 ho1 hb9 hl9 hC9 => ?_))
  have hn1 := nb_fresh hr3 hg1
  have hr7 := hr3.add hb9 hg1
  have hm1 : (Add g1 M1) g1 := .inl Z
  obtain ⟨A2, c2, rfl, hw3⟩ := open_Box hv9
  refine lw_op0 Z Z (ow_store (X := No) (us := [(.slice A2 a_a.Sides.length c2)]) (cs' := #[(.slice A2 a_a.Sides.length c2)]) Z Z Z Z ho1 (Tryd.sizeOf48 _) Z Z Z Z hm1 (.inl hg2) Z hC9 fun w10 ho2 hb10 hl10 hC10 => ?_)
  have hr8 := hr7.go hb10 (fun k hk e => hn1 (hk.trans (congrArg some e))) hl10 (fun _ h => h)
  refine Zn (Ze (cw_seq (cw_seq (Zr (Zo Z Z Z (Za Z Z (Zn (Ze ?_))))))))
  replace h := bind_some h
  obtain ⟨lr1, hlr1, h⟩ := h
  refine cw_for hlr1 (fun s a w' => ∃ (M' : Nat → Prop) (v0c : Value) (v2c : Value), Fits 82 [(3, (.pointer (some p2))), (5, v0c), (6, (.pointer (some ⟨g1, 0, none⟩))), (7, (.int .i64 s.2.1))] a ∧ Le w10 (Add g1 M1) w' M' ∧ Cx No w M w' M' ∧ OwnRow RBox w.heap.size 48 w' M' s.1 v0c ∧ VRep (RSlice (RSlice RSpan)) w' M' s.2.2 v2c ∧ Own w' g1 48 #[v2c] ∧ M' g1 ∧ (Value.ownBlock v0c) ≠ some g1) ?_ ?_ ?_
  ·
   intro a ha
   exact ⟨(Add g1 M1), (.slice (some p3) 0 0), (.slice A2 a_a.Sides.length c2), ha.sub ⟨Z, Z, Z, Z, trivial⟩, Le.refl _ _, hC10, hr8, (VRep.mono (hl9.trans hl10) hw3), ho2, hm1, hn1⟩
  ·
   rintro ⟨y1, k1, y2⟩ a w11 sr1 ⟨M3, v10, v12, hF1, hl11, hC11, hw4, hw5, ho3, hm2, hn2⟩ hb11 hR1
   refine cw_at (E := [(3, (.pointer (some p2))), (5, v10), (6, (.pointer (some ⟨g1, 0, none⟩))), (7, (.int .i64 k1))]) hF1 (cw_seq (cw_seq (Zr (Zo Z Z Z (Zm Z Z (Zo Z Z Z (ow_lss Z Z Z fun bb1 hbb1 => Zn (Ze ?_))))))))
   replace hb11 := Zc hb11
   rcases hb11 with ⟨hc3, hb11⟩ | ⟨hc3, hb11⟩
   ·
    obtain rfl := hbb1.trans hc3
    refine Zt Z (cw_skip (Ze (cw_seq (cw_block (cw_seq ?_)))))
    replace hb11 := bind_some hb11
    obtain ⟨x4, hx4, hb11⟩ := hb11
    replace hb11 := bind_some hb11
    obtain ⟨x5, hx5, hb11⟩ := hb11
    replace hb11 := bind_some hb11
    obtain ⟨x6, hx6, hb11⟩ := hb11
    replace hb11 := bind_some hb11
    obtain ⟨x7, hx7, hb11⟩ := hb11
    have lz5 := (((((lz1.trans hl4).trans hl5).trans hl9).trans hl10).trans hl11)
    have lz6 := (((((hl3.trans hl4).trans hl5).trans hl9).trans hl10).trans hl11)
    refine cw_sub (E' := [(3, (.pointer (some p2))), (5, v10), (6, (.pointer (some ⟨g1, 0, none⟩))), (7, (.int .i64 k1))]) ⟨Z, Z, Z, Z, trivial⟩ (cw_drawQ 13 [PEq (.pointer (some ⟨g1, 0, none⟩)), PV (RSlice (RSlice RSpan)) M3 y2, PEq (.int .i64 k1), PA (RSlice RSpan) M3 x4, PV (RSlice RSpan) M3 x4, PA (RSlice (RSlice RSpan)) M3 a_b.Sides, PV (RSlice (RSlice RSpan)) M3 a_b.Sides, PEq (.int .i64 k1), PA (RSlice RSpan) M3 x5, PV (RSlice RSpan) M3 x5, PEq (.int .i64 k1), PEq (.int .i64 x6), PV (RSlice RSpan) M3 x7] (by kernel_rfl) Z (by kernel_rfl) ⟨Zq, PV.mono _ _ _, Zq, PA.mono _ _ _, PV.mono _ _ _, PA.mono _ _ _, PV.mono _ _ _, Zq, PA.mono _ _ _, PV.mono _ _ _, Zq, Zq, PV.mono _ _ _, trivial⟩ ⟨?_, ?_, ?_, ?_, ?_, ?_, ?_, ?_, ?_, ?_, ?_, ?_, ?_, trivial⟩ ?_)
    ·
     intro w14 D hS1 hd1
     exact Zs (E' := [(6, (.pointer (some ⟨g1, 0, none⟩)))]) ⟨Z, trivial⟩ (Zp Z (Zf Z Z Tryd.underlying48 Z (Tryd.sizeOf46 _) Zb))
    ·
     intro w15 D hS2 hd2
     have hl15 := Le.no M3 hS2
     have ho7 := ho3.no hS2
     exact Zs (E' := [(30, (.pointer (some ⟨g1, 0, none⟩)))]) ⟨(dpE hd2 0 Z Z), trivial⟩ (Zp Z (ow_loadOwn1 Z Z Z ho7 (Tryd.isAgg46 _) Z ⟨BX.refl _ _, (VRep.mono hl15 hw5)⟩))
    ·
     intro w16 D hS3 hd3
     exact Zs (E' := [(7, (.int .i64 k1))]) ⟨Z, trivial⟩ (Zp Z (Zm Z Z Zb))
    ·
     intro w17 D hS4 hd4
     have d2 : PV (RSlice (RSlice RSpan)) M3 y2 (D 1) w17 := dpA hd4 1 Z
     generalize hq1 : (D 1) = v18 at d2
     exact Zs (E' := [(31, v18), (32, (.int .i64 k1))]) ⟨(congrArg some hq1), (dpE hd4 2 Z Z), trivial⟩ (Zp Z (Zx (R := (RSlice RSpan)) Z Z Z d2 Tryd.underlying46 (Tryd.sizeOf121 _) hx4 fun p7 hp7 => ⟨BX.refl _ _, ⟨_, Z, hp7⟩⟩))
    ·
     intro w18 D hS5 hd5
     have d4 : PA (RSlice RSpan) M3 x4 (D 3) w18 := dpA hd5 3 Z
     obtain ⟨p8, e1, ha1⟩ := d4
     exact Zs (E' := [(33, (.pointer (some p8)))]) ⟨(congrArg some e1), trivial⟩ (Zp Z (Zl (R := (RSlice RSpan)) Z Z ha1 (Tryd.sizeOf121 _) (Tryd.isAgg121 _) fun v19 hv19 => ⟨BX.refl _ _, hv19⟩))
    ·
     intro w19 D hS6 hd6
     have hl19 := Le.no M3 hS6
     exact Zs (E' := [(3, (.pointer (some p2)))]) ⟨Z, trivial⟩ (Zp Z (Zf Z Z Tryd.underlying48 Z (Tryd.sizeOf46 _) ⟨BX.refl _ _, ⟨_, Z, (ARep.mono (lz6.trans hl19) (hp2.fld fld_Box_Sides))⟩⟩))
    ·
     intro w20 D hS7 hd7
     have d5 : PA (RSlice (RSlice RSpan)) M3 a_b.Sides (D 5) w20 := dpA hd7 5 Z
     obtain ⟨p9, e2, ha2⟩ := d5
     exact Zs (E' := [(35, (.pointer (some p9)))]) ⟨(congrArg some e2), trivial⟩ (Zp Z (Zl (R := (RSlice (RSlice RSpan))) Z Z ha2 (Tryd.sizeOf46 _) (Tryd.isAgg46 _) fun v20 hv20 => ⟨BX.refl _ _, hv20⟩))
    ·
     intro w21 D hS8 hd8
     exact Zs (E' := [(7, (.int .i64 k1))]) ⟨Z, trivial⟩ (Zp Z (Zm Z Z Zb))
    ·
     intro w22 D hS9 hd9
     have d6 : PV (RSlice (RSlice RSpan)) M3 a_b.Sides (D 6) w22 := dpA hd9 6 Z
     generalize hq2 : (D 6) = v21 at d6
     exact Zs (E' := [(36, v21), (37, (.int .i64 k1))]) ⟨(congrArg some hq2), (dpE hd9 7 Z Z), trivial⟩ (Zp Z (Zx (R := (RSlice RSpan)) Z Z Z d6 Tryd.underlying46 (Tryd.sizeOf121 _) hx5 fun p10 hp10 => ⟨BX.refl _ _, ⟨_, Z, hp10⟩⟩))
    ·
     intro w23 D hS10 hd10
     have d8 : PA (RSlice RSpan) M3 x5 (D 8) w23 := dpA hd10 8 Z
     obtain ⟨p11, e3, ha3⟩ := d8
     exact Zs (E' := [(38, (.pointer (some p11)))]) ⟨(congrArg some e3), trivial⟩ (Zp Z (Zl (R := (RSlice RSpan)) Z Z ha3 (Tryd.sizeOf121 _) (Tryd.isAgg121 _) fun v22 hv22 => ⟨BX.refl _ _, hv22⟩))
    ·
     intro w24 D hS11 hd11
     exact Zs (E' := [(7, (.int .i64 k1))]) ⟨Z, trivial⟩ (Zp Z (Zm Z Z Zb))
    ·
     intro w25 D hS12 hd12
     have hl25 := Le.no M3 hS12
     have hC25 := hC11.no hS12
     refine Zs (E' := [(40, (.int .i64 k1))]) ⟨(dpE hd12 10 Z Z), trivial⟩ (Zp Z (Zk Z Z Tryd.call88 (w_spec_FieldTop (hG.mono (lz5.trans hl25)) hC25.old hx6) fun v23 w26 hv23 => ?_))
     obtain ⟨hv23, hb14⟩ := hv23
     obtain rfl := Zi hv23
     exact ⟨hb14, Z⟩
    ·
     intro w27 D hS13 hd13
     have hl27 := Le.no M3 hS13
     have hC27 := hC11.no hS13
     have d10 : PV (RSlice RSpan) M3 x5 (D 9) w27 := dpA hd13 9 Z
     generalize hq3 : (D 9) = v24 at d10
     refine Zs (E' := [(39, v24), (41, (.int .i64 x6))]) ⟨(congrArg some hq3), (dpE hd13 11 Z Z), trivial⟩ (Zp Z (Zk Z Z Tryd.call158 (w_spec_l2Other (hG.mono (lz5.trans hl27)) hC27.old d10 hx7) fun v25 w28 hv25 => ?_))
     obtain ⟨hv25, hb15⟩ := hv25
     exact ⟨hb15, hv25⟩
    ·
     intro w29 D hS14 hd14
     have d17 : PV (RSlice RSpan) M3 x4 (D 4) w29 := dpA hd14 4 Z
     have d25 : PV (RSlice RSpan) M3 x7 (D 12) w29 := dpA hd14 12 Z
     have hl29 := Le.no M3 hS14
     have hC29 := hC11.no hS14
     have ho21 := ho3.no hS14
     have hr26 := hw4.no hS14
     generalize hq4 : (D 4) = v26 at d17
     generalize hq5 : (D 12) = v27 at d25
     refine lw_sub (E' := [(34, v26), (42, v27), (3, (.pointer (some p2))), (5, v10), (6, (.pointer (some ⟨g1, 0, none⟩))), (7, (.int .i64 k1))]) ⟨(congrArg some hq4), (congrArg some hq5), Z, Z, Z, Z, trivial⟩ ?_
     replace hb11 := bind_some hb11
     obtain ⟨x8, hx8, hb11⟩ := hb11
     refine Zo Z Z Z (Zk Z Z Tryd.call103 (w_spec_l2Meet (hG.mono (lz5.trans hl29)) hC29.old d17 d25 hx8) fun v28 w30 hv28 => ?_)
     obtain ⟨hv28, hb16⟩ := hv28
     have hl30 := Le.no M3 hb16
     have hC30 := hC29.no hb16
     have ho22 := ho21.no hb16
     have hr27 := hr26.no hb16
     refine Zo Z Z Z (Za Z Z (Zn (Ze (cw_seq ?_))))
     have lz7 := ((lz5.trans hl29).trans hl30)
     have lz8 := ((lz6.trans hl29).trans hl30)
     have lz9 := (hl29.trans hl30)
     refine cw_sub (E' := [(3, (.pointer (some p2))), (5, v10), (6, (.pointer (some ⟨g1, 0, none⟩))), (7, (.int .i64 k1)), (8, v28)]) ⟨Z, Z, Z, Z, Z, trivial⟩ (cw_drawQ 10 [PEq (.pointer (some ⟨g1, 0, none⟩)), PV (RSlice (RSlice RSpan)) M3 y2, PEq (.int .i64 k1), PA (RSlice RSpan) M3 x4, PV (RSlice RSpan) M3 x4, PA (RSlice (RSlice RSpan)) M3 a_b.Sides, PV (RSlice (RSlice RSpan)) M3 a_b.Sides, PEq (.int .i64 k1), PA (RSlice RSpan) M3 x5, PV (RSlice RSpan) M3 x5] (by kernel_rfl) Z (by kernel_rfl) ⟨Zq, PV.mono _ _ _, Zq, PA.mono _ _ _, PV.mono _ _ _, PA.mono _ _ _, PV.mono _ _ _, Zq, PA.mono _ _ _, PV.mono _ _ _, trivial⟩ ⟨?_, ?_, ?_, ?_, ?_, ?_, ?_, ?_, ?_, ?_, trivial⟩ ?_)
     ·
      intro w31 D hS15 hd15
      exact Zs (E' := [(6, (.pointer (some ⟨g1, 0, none⟩)))]) ⟨Z, trivial⟩ (Zp Z (Zf Z Z Tryd.underlying48 Z (Tryd.sizeOf46 _) Zb))
     ·
      intro w32 D hS16 hd16
      have hl32 := Le.no M3 hS16
      have ho24 := ho22.no hS16
      exact Zs (E' := [(44, (.pointer (some ⟨g1, 0, none⟩)))]) ⟨(dpE hd16 0 Z Z), trivial⟩ (Zp Z (ow_loadOwn1 Z Z Z ho24 (Tryd.isAgg46 _) Z ⟨BX.refl _ _, (VRep.mono (lz9.trans hl32) hw5)⟩))
     ·
      intro w33 D hS17 hd17
      exact Zs (E' := [(7, (.int .i64 k1))]) ⟨Z, trivial⟩ (Zp Z (Zm Z Z Zb))
     ·
      intro w34 D hS18 hd18
      have d27 : PV (RSlice (RSlice RSpan)) M3 y2 (D 1) w34 := dpA hd18 1 Z
      generalize hq6 : (D 1) = v32 at d27
      exact Zs (E' := [(45, v32), (46, (.int .i64 k1))]) ⟨(congrArg some hq6), (dpE hd18 2 Z Z), trivial⟩ (Zp Z (Zx (R := (RSlice RSpan)) Z Z Z d27 Tryd.underlying46 (Tryd.sizeOf121 _) hx4 fun p14 hp14 => ⟨BX.refl _ _, ⟨_, Z, hp14⟩⟩))
     ·
      intro w35 D hS19 hd19
      have d29 : PA (RSlice RSpan) M3 x4 (D 3) w35 := dpA hd19 3 Z
      obtain ⟨p15, e4, ha4⟩ := d29
      exact Zs (E' := [(47, (.pointer (some p15)))]) ⟨(congrArg some e4), trivial⟩ (Zp Z (Zl (R := (RSlice RSpan)) Z Z ha4 (Tryd.sizeOf121 _) (Tryd.isAgg121 _) fun v33 hv33 => ⟨BX.refl _ _, hv33⟩))
     ·
      intro w36 D hS20 hd20
      have hl36 := Le.no M3 hS20
      exact Zs (E' := [(3, (.pointer (some p2)))]) ⟨Z, trivial⟩ (Zp Z (Zf Z Z Tryd.underlying48 Z (Tryd.sizeOf46 _) ⟨BX.refl _ _, ⟨_, Z, (ARep.mono (lz8.trans hl36) (hp2.fld fld_Box_Sides))⟩⟩))
     ·
      intro w37 D hS21 hd21
      have d30 : PA (RSlice (RSlice RSpan)) M3 a_b.Sides (D 5) w37 := dpA hd21 5 Z
      obtain ⟨p16, e5, ha5⟩ := d30
      exact Zs (E' := [(49, (.pointer (some p16)))]) ⟨(congrArg some e5), trivial⟩ (Zp Z (Zl (R := (RSlice (RSlice RSpan))) Z Z ha5 (Tryd.sizeOf46 _) (Tryd.isAgg46 _) fun v34 hv34 => ⟨BX.refl _ _, hv34⟩))
     ·
      intro w38 D hS22 hd22
      exact Zs (E' := [(7, (.int .i64 k1))]) ⟨Z, trivial⟩ (Zp Z (Zm Z Z Zb))
     ·
      intro w39 D hS23 hd23
      have d31 : PV (RSlice (RSlice RSpan)) M3 a_b.Sides (D 6) w39 := dpA hd23 6 Z
      generalize hq7 : (D 6) = v35 at d31
      exact Zs (E' := [(50, v35), (51, (.int .i64 k1))]) ⟨(congrArg some hq7), (dpE hd23 7 Z Z), trivial⟩ (Zp Z (Zx (R := (RSlice RSpan)) Z Z Z d31 Tryd.underlying46 (Tryd.sizeOf121 _) hx5 fun p17 hp17 => ⟨BX.refl _ _, ⟨_, Z, hp17⟩⟩))
     ·
      intro w40 D hS24 hd24
      have d33 : PA (RSlice RSpan) M3 x5 (D 8) w40 := dpA hd24 8 Z
      obtain ⟨p18, e6, ha6⟩ := d33
      exact Zs (E' := [(52, (.pointer (some p18)))]) ⟨(congrArg some e6), trivial⟩ (Zp Z (Zl (R := (RSlice RSpan)) Z Z ha6 (Tryd.sizeOf121 _) (Tryd.isAgg121 _) fun v36 hv36 => ⟨BX.refl _ _, hv36⟩))
     ·
      intro w41 D hS25 hd25
      have d38 : PV (RSlice RSpan) M3 x4 (D 4) w41 := dpA hd25 4 Z
      have d43 : PV (RSlice RSpan) M3 x5 (D 9) w41 := dpA hd25 9 Z
      have hl41 := Le.no M3 hS25
      have hC41 := hC30.no hS25
      have ho33 := ho22.no hS25
      have hr38 := hr27.no hS25
      generalize hq8 : (D 4) = v37 at d38
      generalize hq9 : (D 9) = v38 at d43
      refine lw_sub (E' := [(48, v37), (53, v38), (3, (.pointer (some p2))), (5, v10), (6, (.pointer (some ⟨g1, 0, none⟩))), (7, (.int .i64 k1)), (8, v28)]) ⟨(congrArg some hq8), (congrArg some hq9), Z, Z, Z, Z, Z, trivial⟩ ?_
      replace hb11 := bind_some hb11
      obtain ⟨x9, hx9, hb11⟩ := hb11
      refine Zo Z Z Z (Zk Z Z Tryd.call103 (w_spec_l2Meet (hG.mono (lz7.trans hl41)) hC41.old d38 d43 hx9) fun v39 w42 hv39 => ?_)
      obtain ⟨hv39, hb17⟩ := hv39
      have hl42 := Le.no M3 hb17
      have hC42 := hC41.no hb17
      have ho34 := ho33.no hb17
      have hr39 := hr38.no hb17
      refine Zo Z Z Z (Za Z Z (Zn (Ze (cw_seq (cw_seq (Zr (Zo Z Z Z (Zm Z Z (Zo Z Z Z (ow_len Z Z (VRep.mono (hl41.trans hl42) hv28) Tryd.underlying121 Z (Zo Z Z Z (ow_gtr Z Z Z fun bb2 hbb2 => Zn (Ze ?_)))))))))))))
      replace hb11 := Zc hb11
      rcases hb11 with ⟨hc4, hb11⟩ | ⟨hc4, hb11⟩
      ·
       obtain rfl := hbb2.trans hc4
       refine Zt Z (cw_seq (Zr (Zo Z Z Z (Zf Z Z Tryd.underlying48 Z (Tryd.sizeOf46 _) (Zo Z Z Z (ow_loadOwn1 Z Z Z ho34 (Tryd.isAgg46 _) Z ?_))))))
       have lz10 := ((lz9.trans hl41).trans hl42)
       replace hb11 := bind_some hb11
       obtain ⟨x10, hx10, hb11⟩ := hb11
       have lz11 := ((lz7.trans hl41).trans hl42)
       refine Zo Z Z Z (Zk Z Z Tryd.call154 (wo_spec_l1OwnRowsSpan (hG.mono lz11) hC42.old (VRep.mono lz10 hw5) hx10) fun v40 w43 hv40 => ?_)
       obtain ⟨⟨M4, hr40, hk1⟩, hb18⟩ := hv40
       replace hr40 := hr40.base hC42.bx.size
       have hl43 := hk1.le
       have hC43 := hC42.trans hk1
       have ho35 := ho34.no hb18
       have hm3 := hk1.sup _ hm2
       have hr41 := hr39.go hb18 (fun _ _ e => e) hl43 hk1.sup
       obtain ⟨A3, c3, rfl⟩ := hr40.len
       refine Zo Z Z Z (ow_build (v := .agg #[(.slice A3 x10.length c3)]) Z Z (by kernel_rfl) (Zo Z Z Z (ow_alloc Z (Tryd.zeroValue48 _) hC43 fun g2 w44 hg3 hg4 ho36 hb19 hl44 hC44 => ?_)))
       have hn3 := Nat.ne_of_lt (Nat.lt_of_lt_of_le ho35.lt hg3)
       have ho37 := ho35.no hb19
       have hm4 : (Add g2 M4) g1 := .inr hm3
       have hn4 := nb_fresh hr41 hg3
       have hr42 := hr41.add hb19 hg3
       have hr43 := hr40.add hb19 hg3
       have hm5 : (Add g2 M4) g2 := .inl Z
       refine lw_op0 Z Z (ow_store (X := No) (us := [(.slice A3 x10.length c3)]) (cs' := #[(.slice A3 x10.length c3)]) Z Z Z Z ho36 (Tryd.sizeOf48 _) Z Z Z Z hm5 (.inl hg4) Z hC44 fun w45 ho38 hb20 hl45 hC45 => ?_)
       have ho39 := ho37.go hb20 (fun e => hn3 e)
       have hr44 := hr42.go hb20 (fun k hk e => hn4 (hk.trans (congrArg some e))) hl45 (fun _ h => h)
       have hr45 := hr43.go hb20 (fun k hk e => (orow_ne hr43 ho36 (by decide)) (hk.trans (congrArg some e))) hl45 (fun _ h => h)
       refine Zn (Ze (cw_seq (Zr (Zo Z Z Z (Zf Z Z Tryd.underlying48 Z (Tryd.sizeOf46 _) (Zo Z Z Z (ow_loadOwn1 Z Z Z ho38 (Tryd.isAgg46 _) Z (Zo Z Z Z (Zm Z Z (Zo Z Z Z (Zm Z Z ?_)))))))))))
       replace hb11 := bind_some hb11
       obtain ⟨x11, hx11, hb11⟩ := hb11
       refine Zo Z Z Z (ow_indexRow (R := (RSlice RSpan)) Z Z Z hr45 Tryd.underlying46 (Tryd.sizeOf121 _) hx11 ?_)
       have lz12 := ((((hl41.trans hl42).trans hl43).trans hl44).trans hl45)
       refine lw_op0 Z Z (ow_storeElRow (X := No) (R := (RSlice RSpan)) (S := (RSlice RSpan)) Z Z Z Z hr45 (orow_blk hr45 hx11) hx11 (FldSet.whole (RSlice RSpan)) (Tryd.sizeOf121 _) (VRep.mono lz12 hv28) (Nat.le_refl _) hC45 fun w46 ho40 hb21 hl46 hC46 => ?_)
       have ho41 := ho39.go hb21 (fun e => (orow_ne hr45 ho39 (by decide)) (by rw [orow_blk hr45 hx11]; exact congrArg some e.symm))
       have ho42 := ho38.go hb21 (fun e => (orow_ne hr45 ho38 (by decide)) (by rw [orow_blk hr45 hx11]; exact congrArg some e.symm))
       have hr46 := hr44.go hb21 (fun k hk e => orow_row_ne hr44 hr45 (by decide) hk (by rw [orow_blk hr45 hx11]; exact congrArg some e.symm)) hl46 (fun _ h => h)
       refine Zn (Ze (Zr (Zo Z Z Z (Zm Z Z (Zo Z Z Z (ow_loadOwnA Z Z Z ho42 (Tryd.isAgg48 _) (Tryd.sizeOf48 _) Z ?_))))))
       have hw6 := ho40.freezeDel
       have hC47 := ho40.cxDel hC46 (fun _ e => e.elim) hO
       have hl47 := Le.del w46 (Add g2 M4) (.slice A3 x10.length c3)
       have hm6 : (Del (.slice A3 x10.length c3) (Add g2 M4)) g1 := ⟨hm4, fun e => (orow_ne ho40 ho41 (by decide)) e⟩
       have hr47 := hr46.goDel ho40 (by decide)
       have hw7 : VRep RBox w46 (Del (.slice A3 x10.length c3) (Add g2 M4)) ({ Sides := (List.set x10 (k1 : Int).toNat x8) } : Box) (.agg #[(.slice A3 x10.length c3)]) := shut_Box hw6
       refine Zo Z Z Z (ow_buildSlice (R := RBox) (xs := [({ Sides := (List.set x10 (k1 : Int).toNat x8) } : Box)]) (cs := #[(.slice A3 x10.length c3)]) (e := 48) Z Z (by kernel_rfl) Z Z ⟨_, _, Z, hw7.cells, Z⟩ hC47 fun p19 w47 hw8 hb22 hl48 hC48 => ?_)
       have ho43 := ho41.no hb22
       have hr48 := hr47.no hb22
       replace hb11 := bind_some hb11
       obtain ⟨z2, hz2, hb11⟩ := hb11
       refine Zo Z Z Z (ow_append (R := RBox) Z Z Z Z Tryd.underlying64 hi48 hz48 hs48 hy48 Z Z Z Z hr48 hw8 hz2 hC48 fun v41 w48 M5 hr49 hb23 hl49 hC49 hM3 hat3 => ?_)
       have hn5 : v41.ownBlock ≠ some g1 := nb_app hn2 hat3 ho43
       have ho45 := ho43.go hb23 (fun e => hn2 e)
       have hm8 := hM3 _ hm6
       refine Zo Z Z Z (Za Z Z (Zn (Ze (cw_seq (Zr (Zo Z Z Z (Zf Z Z Tryd.underlying48 Z (Tryd.sizeOf46 _) (Zo Z Z Z (ow_loadOwn1 Z Z Z ho45 (Tryd.isAgg46 _) Z ?_)))))))))
       have lz13 := (((((((lz10.trans hl43).trans hl44).trans hl45).trans hl46).trans hl47).trans hl48).trans hl49)
       have lz14 := (((((((lz11.trans hl43).trans hl44).trans hl45).trans hl46).trans hl47).trans hl48).trans hl49)
       refine Zo Z Z Z (Zk Z Z Tryd.call154 (wo_spec_l1OwnRowsSpan (hG.mono lz14) hC49.old (VRep.mono lz13 hw5) hx10) fun v42 w49 hv42 => ?_)
       obtain ⟨⟨M6, hr50, hk2⟩, hb24⟩ := hv42
       replace hr50 := hr50.base hC49.bx.size
       have hl50 := hk2.le
       have hC50 := hC49.trans hk2
       have ho47 := ho45.no hb24
       have hm10 := hk2.sup _ hm8
       have hr51 := hr49.go hb24 (fun _ _ e => e) hl50 hk2.sup
       obtain ⟨A4, c4, rfl⟩ := hr50.len
       refine Zo Z Z Z (ow_build (v := .agg #[(.slice A4 x10.length c4)]) Z Z (by kernel_rfl) (Zo Z Z Z (ow_alloc Z (Tryd.zeroValue48 _) hC50 fun g3 w50 hg5 hg6 ho49 hb25 hl51 hC51 => ?_)))
       have hn7 := Nat.ne_of_lt (Nat.lt_of_lt_of_le ho47.lt hg5)
       have ho50 := ho47.no hb25
       have hm12 : (Add g3 M6) g1 := .inr hm10
       have hn9 := nb_fresh hr51 hg5
       have hr52 := hr51.add hb25 hg5
       have hr53 := hr50.add hb25 hg5
       have hm14 : (Add g3 M6) g3 := .inl Z
       refine lw_op0 Z Z (ow_store (X := No) (us := [(.slice A4 x10.length c4)]) (cs' := #[(.slice A4 x10.length c4)]) Z Z Z Z ho49 (Tryd.sizeOf48 _) Z Z Z Z hm14 (.inl hg6) Z hC51 fun w51 ho52 hb26 hl52 hC52 => ?_)
       have ho53 := ho50.go hb26 (fun e => hn7 e)
       have hr54 := hr52.go hb26 (fun k hk e => hn9 (hk.trans (congrArg some e))) hl52 (fun _ h => h)
       have hr55 := hr53.go hb26 (fun k hk e => (orow_ne hr53 ho49 (by decide)) (hk.trans (congrArg some e))) hl52 (fun _ h => h)
       refine Zn (Ze (cw_seq (Zr (Zo Z Z Z (Zf Z Z Tryd.underlying48 Z (Tryd.sizeOf46 _) (Zo Z Z Z (ow_loadOwn1 Z Z Z ho52 (Tryd.isAgg46 _) Z (Zo Z Z Z (Zm Z Z (Zo Z Z Z (Zm Z Z (Zo Z Z Z (ow_indexRow (R := (RSlice RSpan)) Z Z Z hr55 Tryd.underlying46 (Tryd.sizeOf121 _) hx11 ?_)))))))))))))
       have lz15 := (((((((((hl43.trans hl44).trans hl45).trans hl46).trans hl47).trans hl48).trans hl49).trans hl50).trans hl51).trans hl52)
       refine lw_op0 Z Z (ow_storeElRow (X := No) (R := (RSlice RSpan)) (S := (RSlice RSpan)) Z Z Z Z hr55 (orow_blk hr55 hx11) hx11 (FldSet.whole (RSlice RSpan)) (Tryd.sizeOf121 _) (VRep.mono lz15 hv39) (Nat.le_refl _) hC52 fun w52 ho55 hb27 hl53 hC53 => ?_)
       have ho56 := ho53.go hb27 (fun e => (orow_ne hr55 ho53 (by decide)) (by rw [orow_blk hr55 hx11]; exact congrArg some e.symm))
       have ho58 := ho52.go hb27 (fun e => (orow_ne hr55 ho52 (by decide)) (by rw [orow_blk hr55 hx11]; exact congrArg some e.symm))
       have hr56 := hr54.go hb27 (fun k hk e => orow_row_ne hr54 hr55 (by decide) hk (by rw [orow_blk hr55 hx11]; exact congrArg some e.symm)) hl53 (fun _ h => h)
       refine Zn (Ze (Zr (Zo Z Z Z (ow_loadOwnA Z Z Z ho58 (Tryd.isAgg48 _) (Tryd.sizeOf48 _) Z ?_))))
       have hw9 := ho55.freezeDel
       have hC54 := ho55.cxDel hC53 (fun _ e => e.elim) hO
       have hl54 := Le.del w52 (Add g3 M6) (.slice A4 x10.length c4)
       have hm15 : (Del (.slice A4 x10.length c4) (Add g3 M6)) g1 := ⟨hm12, fun e => (orow_ne ho55 ho56 (by decide)) e⟩
       have hr57 := hr56.goDel ho55 (by decide)
       refine lw_op0 Z Z (ow_store (X := No) (us := [(.slice A4 x10.length c4)]) (cs' := #[(.slice A4 x10.length c4)]) Z Z Z Z ho56 (Tryd.sizeOf48 _) Z Z Z Z hm15 (.inl hg2) Z hC54 fun w53 ho59 hb28 hl55 hC55 => ?_)
       have hr58 := hr57.go hb28 (fun k hk e => hn5 (hk.trans (congrArg some e))) hl55 (fun _ h => h)
       refine Zn (ew_blockN (Ze (Zr (Zo Z Z Z (Zm Z Z (Zo Z Z Z (ow_add Z Z Z (Zo Z Z Z (Za Z Z (Zn ?_))))))))))
       have lz16 := (((((((((((((((((hl11.trans hl29).trans hl30).trans hl41).trans hl42).trans hl43).trans hl44).trans hl45).trans hl46).trans hl47).trans hl48).trans hl49).trans hl50).trans hl51).trans hl52).trans hl53).trans hl54).trans hl55)
       exact ew_nxt (z2, (W (k1 + 1)), (List.set x10 (k1 : Int).toNat x9)) hb11 fun a ha => ⟨(Del (.slice A4 x10.length c4) (Add g3 M6)), v41, (.slice A4 x10.length c4), (ha.sub ⟨Z, Z, Z, Z, trivial⟩), lz16, hC55, hr58, (VRep.mono hl55 hw9), ho59, hm15, hn5⟩
      ·
       obtain rfl := hbb2.trans hc4
       refine Zu Z (cw_skip (Ze (cw_seq (Zr (Zo Z Z Z (Zf Z Z Tryd.underlying48 Z (Tryd.sizeOf46 _) (Zo Z Z Z (ow_loadOwn1 Z Z Z ho34 (Tryd.isAgg46 _) Z ?_))))))))
       have lz17 := ((lz9.trans hl41).trans hl42)
       replace hb11 := bind_some hb11
       obtain ⟨x12, hx12, hb11⟩ := hb11
       have lz18 := ((lz7.trans hl41).trans hl42)
       refine Zo Z Z Z (Zk Z Z Tryd.call154 (wo_spec_l1OwnRowsSpan (hG.mono lz18) hC42.old (VRep.mono lz17 hw5) hx12) fun v43 w54 hv43 => ?_)
       obtain ⟨⟨M7, hr59, hk3⟩, hb29⟩ := hv43
       replace hr59 := hr59.base hC42.bx.size
       have hl56 := hk3.le
       have hC56 := hC42.trans hk3
       have ho62 := ho34.no hb29
       have hm18 := hk3.sup _ hm2
       have hr60 := hr39.go hb29 (fun _ _ e => e) hl56 hk3.sup
       obtain ⟨A5, c5, rfl⟩ := hr59.len
       refine Zo Z Z Z (ow_build (v := .agg #[(.slice A5 x12.length c5)]) Z Z (by kernel_rfl) (Zo Z Z Z (ow_alloc Z (Tryd.zeroValue48 _) hC56 fun g4 w55 hg7 hg8 ho63 hb30 hl57 hC57 => ?_)))
       have hn10 := Nat.ne_of_lt (Nat.lt_of_lt_of_le ho62.lt hg7)
       have ho64 := ho62.no hb30
       have hm19 : (Add g4 M7) g1 := .inr hm18
       have hn11 := nb_fresh hr60 hg7
       have hr61 := hr60.add hb30 hg7
       have hr62 := hr59.add hb30 hg7
       have hm20 : (Add g4 M7) g4 := .inl Z
       refine lw_op0 Z Z (ow_store (X := No) (us := [(.slice A5 x12.length c5)]) (cs' := #[(.slice A5 x12.length c5)]) Z Z Z Z ho63 (Tryd.sizeOf48 _) Z Z Z Z hm20 (.inl hg8) Z hC57 fun w56 ho65 hb31 hl58 hC58 => ?_)
       have ho66 := ho64.go hb31 (fun e => hn10 e)
       have hr63 := hr61.go hb31 (fun k hk e => hn11 (hk.trans (congrArg some e))) hl58 (fun _ h => h)
       have hr64 := hr62.go hb31 (fun k hk e => (orow_ne hr62 ho63 (by decide)) (hk.trans (congrArg some e))) hl58 (fun _ h => h)
       refine Zn (Ze (cw_seq (Zr (Zo Z Z Z (Zf Z Z Tryd.underlying48 Z (Tryd.sizeOf46 _) (Zo Z Z Z (ow_loadOwn1 Z Z Z ho65 (Tryd.isAgg46 _) Z (Zo Z Z Z (Zm Z Z (Zo Z Z Z (Zm Z Z ?_)))))))))))
       replace hb11 := bind_some hb11
       obtain ⟨x13, hx13, hb11⟩ := hb11
       refine Zo Z Z Z (ow_indexRow (R := (RSlice RSpan)) Z Z Z hr64 Tryd.underlying46 (Tryd.sizeOf121 _) hx13 ?_)
       have lz19 := ((hl56.trans hl57).trans hl58)
       refine lw_op0 Z Z (ow_storeElRow (X := No) (R := (RSlice RSpan)) (S := (RSlice RSpan)) Z Z Z Z hr64 (orow_blk hr64 hx13) hx13 (FldSet.whole (RSlice RSpan)) (Tryd.sizeOf121 _) (VRep.mono lz19 hv39) (Nat.le_refl _) hC58 fun w57 ho67 hb32 hl59 hC59 => ?_)
       have ho68 := ho66.go hb32 (fun e => (orow_ne hr64 ho66 (by decide)) (by rw [orow_blk hr64 hx13]; exact congrArg some e.symm))
       have ho69 := ho65.go hb32 (fun e => (orow_ne hr64 ho65 (by decide)) (by rw [orow_blk hr64 hx13]; exact congrArg some e.symm))
       have hr65 := hr63.go hb32 (fun k hk e => orow_row_ne hr63 hr64 (by decide) hk (by rw [orow_blk hr64 hx13]; exact congrArg some e.symm)) hl59 (fun _ h => h)
       refine Zn (Ze (Zr (Zo Z Z Z (ow_loadOwnA Z Z Z ho69 (Tryd.isAgg48 _) (Tryd.sizeOf48 _) Z ?_))))
       have hw11 := ho67.freezeDel
       have hC60 := ho67.cxDel hC59 (fun _ e => e.elim) hO
       have hl60 := Le.del w57 (Add g4 M7) (.slice A5 x12.length c5)
       have hm21 : (Del (.slice A5 x12.length c5) (Add g4 M7)) g1 := ⟨hm19, fun e => (orow_ne ho67 ho68 (by decide)) e⟩
       have hr66 := hr65.goDel ho67 (by decide)
       refine lw_op0 Z Z (ow_store (X := No) (us := [(.slice A5 x12.length c5)]) (cs' := #[(.slice A5 x12.length c5)]) Z Z Z Z ho68 (Tryd.sizeOf48 _) Z Z Z Z hm21 (.inl hg2) Z hC60 fun w58 ho70 hb33 hl61 hC61 => ?_)
       have hr67 := hr66.go hb33 (fun k hk e => hn2 (hk.trans (congrArg some e))) hl61 (fun _ h => h)
       refine Zn (ew_blockN (Ze (Zr (Zo Z Z Z (Zm Z Z (Zo Z Z Z (ow_add Z Z Z (Zo Z Z Z (Za Z Z (Zn ?_))))))))))
       have lz20 := ((((((((((hl11.trans hl29).trans hl30).trans hl41).trans hl42).trans hl56).trans hl57).trans hl58).trans hl59).trans hl60).trans hl61)
       exact ew_nxt (y1, (W (k1 + 1)), (List.set x12 (k1 : Int).toNat x9)) hb11 fun a ha => ⟨(Del (.slice A5 x12.length c5) (Add g4 M7)), v10, (.slice A5 x12.length c5), (ha.sub ⟨Z, Z, Z, Z, trivial⟩), lz20, hC61, hr67, (VRep.mono hl61 hw11), ho70, hm21, hn2⟩
   ·
    obtain rfl := hbb1.trans hc3
    exact Zu Z (cw_exit (ew_thenX (ew_thenX (ew_blockX (ew_brk (y1, k1, y2) hb11 fun a ha => ⟨M3, v10, v12, (ha.sub ⟨Z, Z, Z, Z, trivial⟩), hl11, hC11, hw4, hw5, ho3, hm2, hn2⟩)))))
  ·
   rintro ⟨y3, k2, y4⟩ a w59 hlr2 ⟨M8, v44, v46, hF2, hl62, hC62, hw13, hw14, ho72, hm23, hn12⟩
   subst hlr2
   refine ew_at (E := [(3, (.pointer (some p2))), (5, v44), (6, (.pointer (some ⟨g1, 0, none⟩))), (7, (.int .i64 k2))]) hF2 (Ze (cw_seq (Zr (Zo Z Z Z (Zm Z Z (Zo Z Z Z (Za Z Z (Zn (Ze (Zy ?_))))))))))
   obtain rfl := sj h
   exact ew_ret (res1 Z (.tmp Z)) ⟨_, Z, (hw13.freezeBack hC62 hO), hC62.bx⟩

theorem w_spec_BoxWithin {w : World} {M : Nat → Prop} (hG : ARep (RArr 4 RShape) w M shapes ⟨0, 0, none⟩) (hO : ∀ b, M b → b < w.heap.size) {v0p : Value} {a_a : Box} (h0 : VRep RBox w M a_a v0p) {v1p : Value} {a_b : Box} (h1 : VRep RBox w M a_b v1p) {r : Bool} (h : F.spec_BoxWithin a_a a_b = some r) :
  Calls Tryd.prog 70 [v0p, v1p].toArray w fun e w' => ∃ v, e = .returned v ∧ VRep RBool w' M r v ∧ BX No w w' := by
 have hC : Cx No w M w M := Cx.start hO (fun _ e => e.elim)
 refine walk (N := 18) Tryd.func70 Z Tryd.ntmps70 Z (cw_seq (Zr (Zo Z Z Z (ow_box (R := RBox) Z Z h0 hC fun p1 w1 hp1 hb1 hl1 hC1 => Zo Z Z Z (ow_box (R := RBox) Z Z (VRep.mono hl1 h1) hC1 fun p2 w2 hp2 hb2 hl2 hC2 => Zo Z Z Z (Za Z Z (Zn (Ze (cw_seq (Zr (Zo Z Z Z (Zl (R := RBox) Z Z (ARep.mono hl2 hp1) (Tryd.sizeOf48 _) (Tryd.isAgg48 _) fun v1 hv1 => ?_))))))))))))
 replace h := bind_some h
 obtain ⟨x1, hx1, h⟩ := h
 refine Zo Z Z Z (Zk Z Z Tryd.call71 (w_spec_BoxValid (hG.mono (hl1.trans hl2)) hC2.old hv1 hx1) fun v2 w3 hv2 => ?_)
 obtain ⟨hv2, hb3⟩ := hv2
 have hl3 := Le.no M hb3
 have hC3 := hC2.no hb3
 obtain rfl := vbool_eq hv2
 refine Zo Z Z Z (Zm Z Z ?_)
 replace h := Zc h
 rcases h with ⟨hc1, h⟩ | ⟨hc1, h⟩
 ·
  subst hc1
  refine lw_on Z Z Z Z Z Z (Zl (R := RBox) Z Z (ARep.mono hl3 hp2) (Tryd.sizeOf48 _) (Tryd.isAgg48 _) fun v3 hv3 => ?_)
  replace h := bind_some h
  obtain ⟨x2, hx2, h⟩ := h
  have lz1 := ((hl1.trans hl2).trans hl3)
  refine lw_on Z Z Z Z Z Z (Zk Z Z Tryd.call71 (w_spec_BoxValid (hG.mono lz1) hC3.old hv3 hx2) fun v4 w4 hv4 => ?_)
  obtain ⟨hv4, hb4⟩ := hv4
  have hl4 := Le.no M hb4
  have hC4 := hC3.no hb4
  obtain rfl := vbool_eq hv4
  refine Zo Z Z Z (ow_pickT Z Z Z (Zo Z Z Z (Zm Z Z ?_)))
  replace h := Zc h
  rcases h with ⟨hc2, h⟩ | ⟨hc2, h⟩
  ·
   subst hc2
   have lz2 := ((hl2.trans hl3).trans hl4)
   refine lw_on Z Z Z Z Z Z (Zl (R := RBox) Z Z (ARep.mono lz2 hp1) (Tryd.sizeOf48 _) (Tryd.isAgg48 _) fun v5 hv5 => lw_on Z Z Z Z Z Z (Zl (R := RBox) Z Z (ARep.mono (hl3.trans hl4) hp2) (Tryd.sizeOf48 _) (Tryd.isAgg48 _) fun v6 hv6 => ?_))
   replace h := bind_some h
   obtain ⟨x3, hx3, h⟩ := h
   refine lw_on Z Z Z Z Z Z (Zk Z Z Tryd.call124 (w_spec_l11Cut (hG.mono (lz1.trans hl4)) hC4.old hv5 hv6 hx3) fun v7 w5 hv7 => ?_)
   obtain ⟨hv7, hb5⟩ := hv7
   have hC5 := hC4.no hb5
   refine lw_on Z Z Z Z Z Z (ow_len Z Z hv7 Tryd.underlying64 Z (lw_on Z Z Z Z Z Z (ow_eqlI Z Z Z fun bb1 hbb1 => Zo Z Z Z (ow_pickT Z Z Z (Zo Z Z Z (Za Z Z (Zn (Ze (Zy ?_)))))))))
   obtain rfl := sj h
   exact ew_ret (res1 Z (.tmp Z)) ⟨_, Z, ((vbool_of hbb1)), hC5.bx⟩
  ·
   subst hc2
   refine lw_off Z Z Z Z Z Z (lw_off Z Z Z Z Z Z (lw_off Z Z Z Z Z Z (lw_off Z Z Z Z Z Z (lw_off Z Z Z Z Z Z (Zo Z Z Z (ow_pickF Z Z Z (Zo Z Z Z (Za Z Z (Zn (Ze (Zy ?_)))))))))))
   obtain rfl := sj h
   exact ew_ret (res1 Z (.tmp Z)) ⟨_, Z, ((vbool _)), hC4.bx⟩
 ·
  subst hc1
  refine lw_off Z Z Z Z Z Z (lw_off Z Z Z Z Z Z (Zo Z Z Z (ow_pickF Z Z Z (Zo Z Z Z (Zm Z Z (lw_off Z Z Z Z Z Z (lw_off Z Z Z Z Z Z (lw_off Z Z Z Z Z Z (lw_off Z Z Z Z Z Z (lw_off Z Z Z Z Z Z (Zo Z Z Z (ow_pickF Z Z Z (Zo Z Z Z (Za Z Z (Zn (Ze (Zy ?_)))))))))))))))))
  obtain rfl := sj h
  exact ew_ret (res1 Z (.tmp Z)) ⟨_, Z, ((vbool _)), hC3.bx⟩

theorem w_laws_probe {w : World} {M : Nat → Prop} (_hG : ARep (RArr 4 RShape) w M shapes ⟨0, 0, none⟩) (hO : ∀ b, M b → b < w.heap.size) {v0p : Value} {a_list : List Box} (h0 : VRep (RSlice RBox) w M a_list v0p) {a_seed : Int} {r : Packet} (h : F.laws_probe a_list a_seed = some r) :
  Calls Tryd.prog 72 [v0p, (.int .i64 a_seed)].toArray w fun e w' => ∃ v, e = .returned v ∧ VRep RPacket w' M r v ∧ BX No w w' := by
 have hC : Cx No w M w M := Cx.start hO (fun _ e => e.elim)
 clear _hG
 refine walk (N := 107) Tryd.func72 Z Tryd.ntmps72 Z (cw_seq (Zr (Zo Z Z Z (ow_alloc Z (Tryd.zeroValue27 _) hC fun g1 w1 hg1 hg2 ho1 hb1 hl1 hC1 => ?_))))
 have hm1 : (Add g1 M) g1 := .inl Z
 refine Zn (Ze (cw_seq (Zr (Zo Z Z Z (Zm Z Z (Zo Z Z Z (ow_rem Z Z Z (by decide) (Zo Z Z Z (Zm Z Z (Zo Z Z Z (ow_quo Z Z Z (by decide) (Zo Z Z Z (ow_rem Z Z Z (by decide) (Zo Z Z Z (Zm Z Z (Zo Z Z Z (ow_rem Z Z Z (by decide) (Zo Z Z Z (Zm Z Z (Zo Z Z Z (ow_rem Z Z Z (by decide) (Zo Z Z Z (ow_build (v := .agg #[(.int .i64 ((a_seed).tmod 65536)), (.int .i64 (((W ((a_seed).tdiv 3))).tmod 65536)), (.int .i64 ((a_seed).tmod 256)), (.int .i64 ((a_seed).tmod 8))]) Z Z (by kernel_rfl) ?_)))))))))))))))))))))))
 have hw1 : VRep RPacket w1 (Add g1 M) ({ From := ((a_seed).tmod 65536), To := (((W ((a_seed).tdiv 3))).tmod 65536), Port := ((a_seed).tmod 256), Proto := ((a_seed).tmod 8) } : Packet) (.agg #[(.int .i64 ((a_seed).tmod 65536)), (.int .i64 (((W ((a_seed).tdiv 3))).tmod 65536)), (.int .i64 ((a_seed).tmod 256)), (.int .i64 ((a_seed).tmod 8))]) := shut_Packet
 refine lw_allocStore (R := RPacket) Z Z Z Z Z Z Z Tryd.zeroValue27 Tryd.sizeOf27 Z Z Z (by simp) hw1 hC1 fun p1 w2 hp1 hb2 hl2 hC2 => ?_
 have ho2 := ho1.no hb2
 refine Zn (Ze (cw_seq (Zr (Zo Z Z Z (Zf Z Z Tryd.underlying27 Z (Tryd.sizeOf3 _) (Zo Z Z Z (Zl (R := RInt) Z Z (hp1.fld fld_Packet_From) (Tryd.sizeOf3 _) (Tryd.isAgg3 _) fun v1 hv1 => ?_)))))))
 obtain rfl := Zi hv1
 refine Zo Z Z Z (Zf Z Z Tryd.underlying27 Z (Tryd.sizeOf3 _) (Zo Z Z Z (Zl (R := RInt) Z Z (hp1.fld fld_Packet_To) (Tryd.sizeOf3 _) (Tryd.isAgg3 _) fun v2 hv2 => ?_)))
 obtain rfl := Zi hv2
 refine Zo Z Z Z (Zf Z Z Tryd.underlying27 Z (Tryd.sizeOf3 _) (Zo Z Z Z (Zl (R := RInt) Z Z (hp1.fld fld_Packet_Port) (Tryd.sizeOf3 _) (Tryd.isAgg3 _) fun v3 hv3 => ?_)))
 obtain rfl := Zi hv3
 refine Zo Z Z Z (Zf Z Z Tryd.underlying27 Z (Tryd.sizeOf3 _) (Zo Z Z Z (Zl (R := RInt) Z Z (hp1.fld fld_Packet_Proto) (Tryd.sizeOf3 _) (Tryd.isAgg3 _) fun v4 hv4 => ?_)))
 obtain rfl := Zi hv4
 refine Zo Z Z Z (ow_buildSliceOwn (R := RInt) (xs := [({ From := ((a_seed).tmod 65536), To := (((W ((a_seed).tdiv 3))).tmod 65536), Port := ((a_seed).tmod 256), Proto := ((a_seed).tmod 8) } : Packet).From, ({ From := ((a_seed).tmod 65536), To := (((W ((a_seed).tdiv 3))).tmod 65536), Port := ((a_seed).tmod 256), Proto := ((a_seed).tmod 8) } : Packet).To, ({ From := ((a_seed).tmod 65536), To := (((W ((a_seed).tdiv 3))).tmod 65536), Port := ((a_seed).tmod 256), Proto := ((a_seed).tmod 8) } : Packet).Port, ({ From := ((a_seed).tmod 65536), To := (((W ((a_seed).tdiv 3))).tmod 65536), Port := ((a_seed).tmod 256), Proto := ((a_seed).tmod 8) } : Packet).Proto]) (cs := #[(.int .i64 ({ From := ((a_seed).tmod 65536), To := (((W ((a_seed).tdiv 3))).tmod 65536), Port := ((a_seed).tmod 256), Proto := ((a_seed).tmod 8) } : Packet).From), (.int .i64 ({ From := ((a_seed).tmod 65536), To := (((W ((a_seed).tdiv 3))).tmod 65536), Port := ((a_seed).tmod 256), Proto := ((a_seed).tmod 8) } : Packet).To), (.int .i64 ({ From := ((a_seed).tmod 65536), To := (((W ((a_seed).tdiv 3))).tmod 65536), Port := ((a_seed).tmod 256), Proto := ((a_seed).tmod 8) } : Packet).Port), (.int .i64 ({ From := ((a_seed).tmod 65536), To := (((W ((a_seed).tdiv 3))).tmod 65536), Port := ((a_seed).tmod 256), Proto := ((a_seed).tmod 8) } : Packet).Proto)]) (e := 3) Z Z (by kernel_rfl) Z Z ⟨_, _, Z, (vint _).cells, _, _, Z, (vint _).cells, _, _, Z, (vint _).cells, _, _, Z, (vint _).cells, Z⟩ hC2 fun p2 w3 M1 hr1 hb3 hl3 hC3 hM1 hat1 => ?_)
 have ho3 := ho2.no hb3
 have hm2 := hM1 _ hm1
 refine Zo Z Z Z (Za Z Z (Zn (Ze (cw_seq (cw_seq (Zr (Zo Z Z Z (Za Z Z (Zn (Ze ?_))))))))))
 replace h := bind_some h
 obtain ⟨lr1, hlr1, h⟩ := h
 refine cw_for hlr1 (fun s a w' => ∃ (M' : Nat → Prop), Fits 107 [(0, v0p), (1, (.int .i64 a_seed)), (4, (.pointer (some ⟨g1, 0, none⟩))), (6, (.slice (some p2) 4 4)), (7, (.int .i64 s.1))] a ∧ Le w3 M1 w' M' ∧ Cx No w M w' M' ∧ OwnRow RInt w.heap.size 3 w' M' s.2 (.slice (some p2) 4 4) ∧ Own w' g1 27 #[(.int .i64 0), (.int .i64 0), (.int .i64 0), (.int .i64 0)] ∧ M' g1) ?_ ?_ ?_
 ·
  intro a ha
  exact ⟨M1, ha.sub ⟨Z, Z, Z, Z, Z, trivial⟩, Le.refl _ _, hC3, hr1, ho3, hm2⟩
 ·
  rintro ⟨k1, y1⟩ a w4 sr1 ⟨M2, hF1, hl4, hC4, hw2, ho4, hm3⟩ hb4 hR1
  refine cw_at (E := [(0, v0p), (1, (.int .i64 a_seed)), (4, (.pointer (some ⟨g1, 0, none⟩))), (6, (.slice (some p2) 4 4)), (7, (.int .i64 k1))]) hF1 (cw_seq (cw_seq (Zr (Zo Z Z Z (Zm Z Z (Zo Z Z Z (Zm Z Z ?_)))))))
  have lz1 := (((hl1.trans hl2).trans hl3).trans hl4)
  refine Zo Z Z Z (ow_len Z Z (VRep.mono lz1 h0) Tryd.underlying64 Z (Zo Z Z Z (ow_lss Z Z Z fun bb1 hbb1 => Zn (Ze ?_))))
  replace hb4 := Zc hb4
  rcases hb4 with ⟨hc1, hb4⟩ | ⟨hc1, hb4⟩
  ·
   obtain rfl := hbb1.trans hc1
   refine Zt Z (cw_skip (Ze (cw_seq (cw_block (cw_seq (Zr (Zo Z Z Z (Za Z Z (Zn (Ze ?_))))))))))
   replace hb4 := bind_some hb4
   obtain ⟨lr2, hlr2, hb4⟩ := hb4
   refine cw_for hlr2 (fun s a w' => ∃ (M' : Nat → Prop), Fits 107 [(0, v0p), (1, (.int .i64 a_seed)), (4, (.pointer (some ⟨g1, 0, none⟩))), (6, (.slice (some p2) 4 4)), (7, (.int .i64 k1)), (8, (.int .i64 s.1))] a ∧ Le w4 M2 w' M' ∧ Cx No w M w' M' ∧ OwnRow RInt w.heap.size 3 w' M' s.2 (.slice (some p2) 4 4) ∧ Own w' g1 27 #[(.int .i64 0), (.int .i64 0), (.int .i64 0), (.int .i64 0)] ∧ M' g1) ?_ ?_ ?_
   ·
    intro a ha
    exact ⟨M2, ha.sub ⟨Z, Z, Z, Z, Z, Z, trivial⟩, Le.refl _ _, hC4, hw2, ho4, hm3⟩
   ·
    rintro ⟨k2, y2⟩ a w5 sr2 ⟨M3, hF2, hl5, hC5, hw3, ho5, hm4⟩ hb5 hR2
    refine cw_at (E := [(0, v0p), (1, (.int .i64 a_seed)), (4, (.pointer (some ⟨g1, 0, none⟩))), (6, (.slice (some p2) 4 4)), (7, (.int .i64 k1)), (8, (.int .i64 k2))]) hF2 (cw_seq (cw_seq (Zr (Zo Z Z Z (Zm Z Z (Zo Z Z Z (ow_lss Z Z Z fun bb2 hbb2 => Zo Z Z Z (Zm Z Z ?_))))))))
    replace hb5 := Zc hb5
    rcases hb5 with ⟨hc2, hb5⟩ | ⟨hc2, hb5⟩
    ·
     obtain rfl := hbb2.trans hc2
     refine lw_on Z Z Z Z Z Z (Zm Z Z (lw_on Z Z Z Z Z Z (Zm Z Z (lw_on Z Z Z Z Z Z (Zm Z Z ?_)))))
     replace hb5 := bind_some hb5
     obtain ⟨x1, hx1, hb5⟩ := hb5
     refine lw_on Z Z Z Z Z Z (Zx (R := RBox) Z Z Z (VRep.mono (lz1.trans hl5) h0) Tryd.underlying64 (Tryd.sizeOf48 _) hx1 fun p3 hp3 => lw_on Z Z Z Z Z Z (Zf Z Z Tryd.underlying48 Z (Tryd.sizeOf46 _) (lw_on Z Z Z Z Z Z (Zl (R := (RSlice (RSlice RSpan))) Z Z (hp3.fld fld_Box_Sides) (Tryd.sizeOf46 _) (Tryd.isAgg46 _) fun v9 hv9 => lw_on Z Z Z Z Z Z (ow_len Z Z hv9 Tryd.underlying46 Z (lw_on Z Z Z Z Z Z (ow_lss Z Z Z fun bb3 hbb3 => Zo Z Z Z (ow_pickT Z Z Z (Zn (Ze ?_))))))))))
     replace hb5 := Zc hb5
     rcases hb5 with ⟨hc3, hb5⟩ | ⟨hc3, hb5⟩
     ·
      obtain rfl := hbb3.trans hc3
      refine Zt Z (cw_skip (Ze (cw_seq (cw_block (cw_seq (Zr (Zo Z Z Z (Zm Z Z (Zo Z Z Z (Zm Z Z (Zo Z Z Z (Zx (R := RBox) Z Z Z (VRep.mono (lz1.trans hl5) h0) Tryd.underlying64 (Tryd.sizeOf48 _) hx1 fun p4 hp4 => Zo Z Z Z (Zf Z Z Tryd.underlying48 Z (Tryd.sizeOf46 _) (Zo Z Z Z (Zl (R := (RSlice (RSlice RSpan))) Z Z (hp4.fld fld_Box_Sides) (Tryd.sizeOf46 _) (Tryd.isAgg46 _) fun v10 hv10 => Zo Z Z Z (Zm Z Z ?_))))))))))))))))
      replace hb5 := bind_some hb5
      obtain ⟨x2, hx2, hb5⟩ := hb5
      refine Zo Z Z Z (Zx (R := (RSlice RSpan)) Z Z Z hv10 Tryd.underlying46 (Tryd.sizeOf121 _) hx2 fun p5 hp5 => Zo Z Z Z (Zl (R := (RSlice RSpan)) Z Z hp5 (Tryd.sizeOf121 _) (Tryd.isAgg121 _) fun v11 hv11 => Zo Z Z Z (Za Z Z (Zn (Ze (cw_seq (cw_seq (Zr (Zo Z Z Z (Zm Z Z (Zo Z Z Z (ow_len Z Z hv11 Tryd.underlying121 Z (Zo Z Z Z (ow_eqlI Z Z Z fun bb4 hbb4 => Zo Z Z Z (Zm Z Z ?_)))))))))))))))
      replace hb5 := Zc hb5
      rcases hb5 with ⟨hc4, hb5⟩ | ⟨hc4, hb5⟩
      ·
       obtain rfl := hbb4.trans hc4
       exact lw_off Z Z Z Z Z Z (lw_off Z Z Z Z Z Z (lw_off Z Z Z Z Z Z (lw_off Z Z Z Z Z Z (lw_off Z Z Z Z Z Z (lw_off Z Z Z Z Z Z (lw_off Z Z Z Z Z Z (Zo Z Z Z (ow_pickT Z Z Z (Zn (Ze (Zt Z (cw_exit (ew_thenX (ew_blockX (Ze (Zr (Zo Z Z Z (Zm Z Z (Zo Z Z Z (ow_add Z Z Z (Zo Z Z Z (Za Z Z (Zn (ew_nxt ((W (k2 + 1)), y2) hb5 fun a ha => ⟨M3, (ha.sub ⟨Z, Z, Z, Z, Z, Z, trivial⟩), hl5, hC5, hw3, ho5, hm4⟩))))))))))))))))))))))))
      ·
       obtain rfl := hbb4.trans hc4
       refine lw_on Z Z Z Z Z Z (Zm Z Z (lw_on Z Z Z Z Z Z (Zm Z Z (lw_on Z Z Z Z Z Z (ow_add Z Z Z (lw_on Z Z Z Z Z Z (Zm Z Z (lw_on Z Z Z Z Z Z (ow_add Z Z Z (lw_on Z Z Z Z Z Z (ow_rem Z Z Z (by decide) (lw_on Z Z Z Z Z Z (ow_eqlI Z Z Z fun bb5 hbb5 => Zo Z Z Z (ow_pickF Z Z Z (Zn (Ze ?_))))))))))))))))
       replace hb5 := Zc hb5
       rcases hb5 with ⟨hc5, hb5⟩ | ⟨hc5, hb5⟩
       ·
        obtain rfl := hbb5.trans hc5
        exact Zt Z (cw_exit (ew_thenX (ew_blockX (Ze (Zr (Zo Z Z Z (Zm Z Z (Zo Z Z Z (ow_add Z Z Z (Zo Z Z Z (Za Z Z (Zn (ew_nxt ((W (k2 + 1)), y2) hb5 fun a ha => ⟨M3, (ha.sub ⟨Z, Z, Z, Z, Z, Z, trivial⟩), hl5, hC5, hw3, ho5, hm4⟩)))))))))))))
       ·
        obtain rfl := hbb5.trans hc5
        refine Zu Z (cw_skip (Ze (cw_seq (Zr (Zo Z Z Z (Zm Z Z (Zo Z Z Z (Zm Z Z (Zo Z Z Z (Zm Z Z (Zo Z Z Z (ow_add Z Z Z (Zo Z Z Z (Zm Z Z (Zo Z Z Z (ow_len Z Z hv11 Tryd.underlying121 Z ?_))))))))))))))))
        replace hb5 := bind_some hb5
        obtain ⟨u1, hu1, hb5⟩ := hb5
        refine Zo Z Z Z (ow_rem Z Z Z (nzF_some hu1) ?_)
        replace hb5 := bind_some hb5
        obtain ⟨x3, hx3, hb5⟩ := hb5
        refine Zo Z Z Z (Zx (R := RSpan) Z Z Z hv11 Tryd.underlying121 (Tryd.sizeOf120 _) hx3 fun p6 hp6 => Zo Z Z Z (Zl (R := RSpan) Z Z hp6 (Tryd.sizeOf120 _) (Tryd.isAgg120 _) fun v12 hv12 => lw_allocStore (R := RSpan) Z Z Z Z Z Z Z Tryd.zeroValue120 Tryd.sizeOf120 Z Z Z (by simp) hv12 hC5 fun p7 w6 hp7 hb6 hl6 hC6 => ?_))
        have ho6 := ho5.no hb6
        have hr2 := hw3.no hb6
        refine Zn (Ze (cw_seq (Zr (Zo Z Z Z (Zm Z Z (Zo Z Z Z (Zm Z Z (Zo Z Z Z (Zf Z Z Tryd.underlying120 Z (Tryd.sizeOf3 _) (Zo Z Z Z (Zl (R := RInt) Z Z (hp7.fld fld_Span_Lo) (Tryd.sizeOf3 _) (Tryd.isAgg3 _) fun v13 hv13 => ?_)))))))))))
        obtain rfl := Zi hv13
        replace hb5 := bind_some hb5
        obtain ⟨x4, hx4, hb5⟩ := hb5
        refine Zo Z Z Z (ow_indexRow (R := RInt) Z Z Z hr2 Tryd.underlying34 (Tryd.sizeOf3 _) hx4 (lw_op0 Z Z (ow_storeElRow (X := No) (R := RInt) (S := RInt) Z Z Z Z hr2 (orow_blk hr2 hx4) hx4 (FldSet.whole RInt) (Tryd.sizeOf3 _) (vint _) (Nat.le_refl _) hC6 fun w7 ho7 hb7 hl7 hC7 => ?_)))
        have ho8 := ho6.go hb7 (fun e => (orow_ne hr2 ho6 (by decide)) (by rw [orow_blk hr2 hx4]; exact congrArg some e.symm))
        refine Zn (Ze (cw_seq (Zr (Zo Z Z Z (Zm Z Z (Zo Z Z Z (Zm Z Z (Zo Z Z Z (ow_add Z Z Z (Zo Z Z Z (ow_rem Z Z Z (by decide) (Zo Z Z Z (ow_eqlI Z Z Z fun bb6 hbb6 => Zn (Ze ?_))))))))))))))
        replace hb5 := Zc hb5
        rcases hb5 with ⟨hc6, hb5⟩ | ⟨hc6, hb5⟩
        ·
         obtain rfl := hbb6.trans hc6
         refine Zt Z (Zr (Zo Z Z Z (Zm Z Z (Zo Z Z Z (Zm Z Z (Zo Z Z Z (Zf Z Z Tryd.underlying120 Z (Tryd.sizeOf3 _) (Zo Z Z Z (Zl (R := RInt) Z Z (ARep.mono hl7 (hp7.fld fld_Span_Hi)) (Tryd.sizeOf3 _) (Tryd.isAgg3 _) fun v14 hv14 => ?_)))))))))
         obtain rfl := Zi hv14
         replace hb5 := bind_some hb5
         obtain ⟨x5, hx5, hb5⟩ := hb5
         refine Zo Z Z Z (ow_indexRow (R := RInt) Z Z Z ho7 Tryd.underlying34 (Tryd.sizeOf3 _) hx5 (lw_op0 Z Z (ow_storeElRow (X := No) (R := RInt) (S := RInt) Z Z Z Z ho7 (orow_blk ho7 hx5) hx5 (FldSet.whole RInt) (Tryd.sizeOf3 _) (vint _) (Nat.le_refl _) hC7 fun w8 ho9 hb8 hl8 hC8 => ?_)))
         have ho10 := ho8.go hb8 (fun e => (orow_ne ho7 ho8 (by decide)) (by rw [orow_blk ho7 hx5]; exact congrArg some e.symm))
         refine Zn (ew_blockN (Ze (Zr (Zo Z Z Z (Zm Z Z (Zo Z Z Z (ow_add Z Z Z (Zo Z Z Z (Za Z Z (Zn ?_))))))))))
         have lz2 := (((hl5.trans hl6).trans hl7).trans hl8)
         exact ew_nxt ((W (k2 + 1)), (List.set (List.set y2 (k2 : Int).toNat x3.Lo) (k2 : Int).toNat x3.Hi)) hb5 fun a ha => ⟨M3, (ha.sub ⟨Z, Z, Z, Z, Z, Z, trivial⟩), lz2, hC8, ho9, ho10, hm4⟩
        ·
         obtain rfl := hbb6.trans hc6
         refine Zu Z (cw_skip (ew_blockN (Ze (Zr (Zo Z Z Z (Zm Z Z (Zo Z Z Z (ow_add Z Z Z (Zo Z Z Z (Za Z Z (Zn ?_)))))))))))
         have lz3 := ((hl5.trans hl6).trans hl7)
         exact ew_nxt ((W (k2 + 1)), (List.set y2 (k2 : Int).toNat x3.Lo)) hb5 fun a ha => ⟨M3, (ha.sub ⟨Z, Z, Z, Z, Z, Z, trivial⟩), lz3, hC7, ho7, ho8, hm4⟩
     ·
      obtain rfl := hbb3.trans hc3
      exact Zu Z (cw_exit (ew_thenX (ew_thenX (ew_blockX (ew_brk (k2, y2) hb5 fun a ha => ⟨M3, (ha.sub ⟨Z, Z, Z, Z, Z, Z, trivial⟩), hl5, hC5, hw3, ho5, hm4⟩)))))
    ·
     obtain rfl := hbb2.trans hc2
     exact lw_off Z Z Z Z Z Z (lw_off Z Z Z Z Z Z (lw_off Z Z Z Z Z Z (lw_off Z Z Z Z Z Z (lw_off Z Z Z Z Z Z (lw_off Z Z Z Z Z Z (lw_off Z Z Z Z Z Z (lw_off Z Z Z Z Z Z (Zo Z Z Z (ow_pickF Z Z Z (Zn (Ze (Zu Z (cw_exit (ew_thenX (ew_thenX (ew_blockX (ew_brk (k2, y2) hb5 fun a ha => ⟨M3, (ha.sub ⟨Z, Z, Z, Z, Z, Z, trivial⟩), hl5, hC5, hw3, ho5, hm4⟩)))))))))))))))))
   ·
    rintro ⟨k3, y3⟩ a w9 hlr3 ⟨M4, hF3, hl9, hC9, hw4, ho11, hm5⟩
    subst hlr3
    exact ew_at (E := [(0, v0p), (1, (.int .i64 a_seed)), (4, (.pointer (some ⟨g1, 0, none⟩))), (6, (.slice (some p2) 4 4)), (7, (.int .i64 k1)), (8, (.int .i64 k3))]) hF3 (ew_blockN (Ze (Zr (Zo Z Z Z (Zm Z Z (Zo Z Z Z (ow_add Z Z Z (Zo Z Z Z (Za Z Z (Zn (ew_nxt ((W (k1 + 1)), y3) hb4 fun a ha => ⟨M4, (ha.sub ⟨Z, Z, Z, Z, Z, trivial⟩), (hl4.trans hl9), hC9, hw4, ho11, hm5⟩)))))))))))
  ·
   obtain rfl := hbb1.trans hc1
   exact Zu Z (cw_exit (ew_thenX (ew_thenX (ew_blockX (ew_brk (k1, y1) hb4 fun a ha => ⟨M2, (ha.sub ⟨Z, Z, Z, Z, Z, trivial⟩), hl4, hC4, hw2, ho4, hm3⟩)))))
 ·
  rintro ⟨k4, y4⟩ a w10 hlr4 ⟨M5, hF4, hl10, hC10, hw5, ho12, hm6⟩
  subst hlr4
  refine ew_at (E := [(0, v0p), (1, (.int .i64 a_seed)), (4, (.pointer (some ⟨g1, 0, none⟩))), (6, (.slice (some p2) 4 4)), (7, (.int .i64 k4))]) hF4 (Ze (cw_seq ?_))
  replace h := bind_some h
  obtain ⟨x6, hx6, h⟩ := h
  replace h := bind_some h
  obtain ⟨x7, hx7, h⟩ := h
  replace h := bind_some h
  obtain ⟨x8, hx8, h⟩ := h
  replace h := bind_some h
  obtain ⟨x9, hx9, h⟩ := h
  refine cw_sub (E' := [(4, (.pointer (some ⟨g1, 0, none⟩))), (6, (.slice (some p2) 4 4))]) ⟨Z, Z, trivial⟩ (cw_drawQ 12 [PEq (.slice (some p2) 4 4), PEq (.pointer (some ⟨blk (.slice (some p2) 4 4), (0 : Int).toNat * RInt.size + 0, none⟩)), PEq (.int .i64 x6), PEq (.slice (some p2) 4 4), PEq (.pointer (some ⟨blk (.slice (some p2) 4 4), (1 : Int).toNat * RInt.size + 0, none⟩)), PEq (.int .i64 x7), PEq (.slice (some p2) 4 4), PEq (.pointer (some ⟨blk (.slice (some p2) 4 4), (2 : Int).toNat * RInt.size + 0, none⟩)), PEq (.int .i64 x8), PEq (.slice (some p2) 4 4), PEq (.pointer (some ⟨blk (.slice (some p2) 4 4), (3 : Int).toNat * RInt.size + 0, none⟩)), PEq (.int .i64 x9)] (by kernel_rfl) Z (by kernel_rfl) ⟨Zq, Zq, Zq, Zq, Zq, Zq, Zq, Zq, Zq, Zq, Zq, Zq, trivial⟩ ⟨?_, ?_, ?_, ?_, ?_, ?_, ?_, ?_, ?_, ?_, ?_, ?_, trivial⟩ ?_)
  ·
   intro w11 D hS1 hd1
   exact Zs (E' := [(6, (.slice (some p2) 4 4))]) ⟨Z, trivial⟩ (Zp Z (Zm Z Z Zb))
  ·
   intro w12 D hS2 hd2
   have hr4 := hw5.no hS2
   exact Zs (E' := [(94, (.slice (some p2) 4 4))]) ⟨(dpE hd2 0 Z Z), trivial⟩ (Zp Z (ow_indexRow (R := RInt) Z Z Z hr4 Tryd.underlying34 (Tryd.sizeOf3 _) hx6 Zb))
  ·
   intro w13 D hS3 hd3
   have hr5 := hw5.no hS3
   refine Zs (E' := [(95, (.pointer (some ⟨blk (.slice (some p2) 4 4), (0 : Int).toNat * RInt.size + 0, none⟩)))]) ⟨(dpE hd3 1 Z Z), trivial⟩ (Zp Z (ow_loadElRow (R := RInt) (S := RInt) Z Z Z hr5 (orow_blk hr5 hx6) hx6 (Fld.whole RInt) (Tryd.sizeOf3 _) (Tryd.isAgg3 _) fun v23 hv23 => ?_))
   obtain rfl := Zi hv23
   exact Zb
  ·
   intro w14 D hS4 hd4
   exact Zs (E' := [(6, (.slice (some p2) 4 4))]) ⟨Z, trivial⟩ (Zp Z (Zm Z Z Zb))
  ·
   intro w15 D hS5 hd5
   have hr7 := hw5.no hS5
   exact Zs (E' := [(97, (.slice (some p2) 4 4))]) ⟨(dpE hd5 3 Z Z), trivial⟩ (Zp Z (ow_indexRow (R := RInt) Z Z Z hr7 Tryd.underlying34 (Tryd.sizeOf3 _) hx7 Zb))
  ·
   intro w16 D hS6 hd6
   have hr8 := hw5.no hS6
   refine Zs (E' := [(98, (.pointer (some ⟨blk (.slice (some p2) 4 4), (1 : Int).toNat * RInt.size + 0, none⟩)))]) ⟨(dpE hd6 4 Z Z), trivial⟩ (Zp Z (ow_loadElRow (R := RInt) (S := RInt) Z Z Z hr8 (orow_blk hr8 hx7) hx7 (Fld.whole RInt) (Tryd.sizeOf3 _) (Tryd.isAgg3 _) fun v24 hv24 => ?_))
   obtain rfl := Zi hv24
   exact Zb
  ·
   intro w17 D hS7 hd7
   exact Zs (E' := [(6, (.slice (some p2) 4 4))]) ⟨Z, trivial⟩ (Zp Z (Zm Z Z Zb))
  ·
   intro w18 D hS8 hd8
   have hr10 := hw5.no hS8
   exact Zs (E' := [(100, (.slice (some p2) 4 4))]) ⟨(dpE hd8 6 Z Z), trivial⟩ (Zp Z (ow_indexRow (R := RInt) Z Z Z hr10 Tryd.underlying34 (Tryd.sizeOf3 _) hx8 Zb))
  ·
   intro w19 D hS9 hd9
   have hr11 := hw5.no hS9
   refine Zs (E' := [(101, (.pointer (some ⟨blk (.slice (some p2) 4 4), (2 : Int).toNat * RInt.size + 0, none⟩)))]) ⟨(dpE hd9 7 Z Z), trivial⟩ (Zp Z (ow_loadElRow (R := RInt) (S := RInt) Z Z Z hr11 (orow_blk hr11 hx8) hx8 (Fld.whole RInt) (Tryd.sizeOf3 _) (Tryd.isAgg3 _) fun v25 hv25 => ?_))
   obtain rfl := Zi hv25
   exact Zb
  ·
   intro w20 D hS10 hd10
   exact Zs (E' := [(6, (.slice (some p2) 4 4))]) ⟨Z, trivial⟩ (Zp Z (Zm Z Z Zb))
  ·
   intro w21 D hS11 hd11
   have hr13 := hw5.no hS11
   exact Zs (E' := [(103, (.slice (some p2) 4 4))]) ⟨(dpE hd11 9 Z Z), trivial⟩ (Zp Z (ow_indexRow (R := RInt) Z Z Z hr13 Tryd.underlying34 (Tryd.sizeOf3 _) hx9 Zb))
  ·
   intro w22 D hS12 hd12
   have hr14 := hw5.no hS12
   refine Zs (E' := [(104, (.pointer (some ⟨blk (.slice (some p2) 4 4), (3 : Int).toNat * RInt.size + 0, none⟩)))]) ⟨(dpE hd12 10 Z Z), trivial⟩ (Zp Z (ow_loadElRow (R := RInt) (S := RInt) Z Z Z hr14 (orow_blk hr14 hx9) hx9 (Fld.whole RInt) (Tryd.sizeOf3 _) (Tryd.isAgg3 _) fun v26 hv26 => ?_))
   obtain rfl := Zi hv26
   exact Zb
  ·
   intro w23 D hS13 hd13
   have hC23 := hC10.no hS13
   have ho25 := ho12.no hS13
   refine lw_sub (E' := [(96, (.int .i64 x6)), (99, (.int .i64 x7)), (102, (.int .i64 x8)), (105, (.int .i64 x9)), (4, (.pointer (some ⟨g1, 0, none⟩))), (6, (.slice (some p2) 4 4))]) ⟨(dpE hd13 2 Z Z), (dpE hd13 5 Z Z), (dpE hd13 8 Z Z), (dpE hd13 11 Z Z), Z, Z, trivial⟩ (Zo Z Z Z (ow_build (v := .agg #[(.int .i64 x6), (.int .i64 x7), (.int .i64 x8), (.int .i64 x9)]) Z Z (by kernel_rfl) (lw_op0 Z Z (ow_store (X := No) (us := [(.int .i64 x6), (.int .i64 x7), (.int .i64 x8), (.int .i64 x9)]) (cs' := #[(.int .i64 x6), (.int .i64 x7), (.int .i64 x8), (.int .i64 x9)]) Z Z Z Z ho25 (Tryd.sizeOf27 _) Z Z Z Z hm6 (.inl hg2) Z hC23 fun w24 ho26 hb9 hl24 hC24 => Zn (Ze (Zy ?_))))))
   have hw7 : VRep RPacket w24 M5 ({ From := x6, To := x7, Port := x8, Proto := x9 } : Packet) (.agg #[(.int .i64 x6), (.int .i64 x7), (.int .i64 x8), (.int .i64 x9)]) := shut_Packet
   obtain rfl := sj h
   exact ew_ret (res1 Z (.cell Z (own_loadVarA ho26 (Tryd.isAgg27 _) (Tryd.sizeOf27 _) Z))) ⟨_, Z, (hw7.mono hC24.back), hC24.bx⟩

theorem w_impl_Packet_fields {w : World} {M : Nat → Prop} (_hG : ARep (RArr 4 RShape) w M shapes ⟨0, 0, none⟩) (hO : ∀ b, M b → b < w.heap.size) {v0p : Value} {a_p : Packet} (h0 : VRep RPacket w M a_p v0p) {r : (List Int)} (h : F.impl_Packet_fields a_p = some r) :
  Calls Tryd.prog 141 [v0p].toArray w fun e w' => ∃ v, e = .returned v ∧ VRep (RArr 4 RInt) w' M r v ∧ BX No w w' := by
 have hC : Cx No w M w M := Cx.start hO (fun _ e => e.elim)
 clear _hG
 refine walk (N := 12) Tryd.func141 Z Tryd.ntmps141 Z (cw_seq (Zr (Zo Z Z Z (ow_box (R := RPacket) Z Z h0 hC fun p1 w1 hp1 hb1 hl1 hC1 => Zo Z Z Z (ow_alloc Z (Tryd.zeroValue186 _) hC1 fun g1 w2 hg1 hg2 ho1 hb2 hl2 hC2 => ?_)))))
 have hm1 : (Add g1 M) g1 := .inl Z
 have ho2 : OwnA (RArr 4 RInt) w2 (Add g1 M) g1 186 [0, 0, 0, 0] := OwnA.of ho1 ⟨Z, ⟨_, _, Z, (vint _).cells, _, _, Z, (vint _).cells, _, _, Z, (vint _).cells, _, _, Z, (vint _).cells, Z⟩⟩
 refine Zn (Ze (cw_seq (Zr (Zo Z Z Z (Zf Z Z Tryd.underlying27 Z (Tryd.sizeOf3 _) (Zo Z Z Z (Zl (R := RInt) Z Z (ARep.mono hl2 (hp1.fld fld_Packet_From)) (Tryd.sizeOf3 _) (Tryd.isAgg3 _) fun v1 hv1 => ?_)))))))
 obtain rfl := Zi hv1
 refine Zo Z Z Z (Zf Z Z Tryd.underlying27 Z (Tryd.sizeOf3 _) (Zo Z Z Z (Zl (R := RInt) Z Z (ARep.mono hl2 (hp1.fld fld_Packet_To)) (Tryd.sizeOf3 _) (Tryd.isAgg3 _) fun v2 hv2 => ?_)))
 obtain rfl := Zi hv2
 refine Zo Z Z Z (Zf Z Z Tryd.underlying27 Z (Tryd.sizeOf3 _) (Zo Z Z Z (Zl (R := RInt) Z Z (ARep.mono hl2 (hp1.fld fld_Packet_Port)) (Tryd.sizeOf3 _) (Tryd.isAgg3 _) fun v3 hv3 => ?_)))
 obtain rfl := Zi hv3
 refine Zo Z Z Z (Zf Z Z Tryd.underlying27 Z (Tryd.sizeOf3 _) (Zo Z Z Z (Zl (R := RInt) Z Z (ARep.mono hl2 (hp1.fld fld_Packet_Proto)) (Tryd.sizeOf3 _) (Tryd.isAgg3 _) fun v4 hv4 => ?_)))
 obtain rfl := Zi hv4
 refine Zo Z Z Z (ow_build (v := .agg #[(.int .i64 a_p.From), (.int .i64 a_p.To), (.int .i64 a_p.Port), (.int .i64 a_p.Proto)]) Z Z (by kernel_rfl) ?_)
 have hw1 : VRep (RArr 4 RInt) w2 (Add g1 M) [a_p.From, a_p.To, a_p.Port, a_p.Proto] (.agg #[(.int .i64 a_p.From), (.int .i64 a_p.To), (.int .i64 a_p.Port), (.int .i64 a_p.Proto)]) := ⟨_, ⟨Z, ⟨_, _, Z, (vint _).cells, _, _, Z, (vint _).cells, _, _, Z, (vint _).cells, _, _, Z, (vint _).cells, Z⟩⟩, Z⟩
 obtain ⟨cs1, h1, h2⟩ := ho2.own
 refine lw_op0 Z Z (ow_storeA (X := No) (R := (RArr 4 RInt)) Z Z Z Z h1 h2 (Tryd.sizeOf186 _) hw1 hm1 (.inl hg2) hC2 fun w3 ho3 hb3 hl3 hC3 => Zn (Ze (Zy ?_)))
 obtain rfl := sj h
 obtain ⟨v5, hq1, hw2⟩ := resA ho3 (Tryd.sizeOf186 _) (Tryd.isAgg186 _) rfl
 exact ew_ret (res1 Z (.cell Z hq1)) ⟨_, Z, (hw2.mono hC3.back), hC3.bx⟩

theorem w_impl_sides_has {w : World} {M : Nat → Prop} (hG : ARep (RArr 4 RShape) w M shapes ⟨0, 0, none⟩) (hO : ∀ b, M b → b < w.heap.size) {v0p : Value} {a_s : List (List Span)} (h0 : VRep (RArr 4 (RSlice RSpan)) w M a_s v0p) {v1p : Value} {a_p : Packet} (h1 : VRep RPacket w M a_p v1p) {r : Bool} (h : F.impl_sides_has a_s a_p = some r) :
  Calls Tryd.prog 134 [v0p, v1p].toArray w fun e w' => ∃ v, e = .returned v ∧ VRep RBool w' M r v ∧ BX No w w' := by
 have hC : Cx No w M w M := Cx.start hO (fun _ e => e.elim)
 refine walk (N := 20) Tryd.func134 Z Tryd.ntmps134 Z (cw_seq (Zr (Zo Z Z Z (ow_box (R := (RArr 4 (RSlice RSpan))) Z Z h0 hC fun p1 w1 hp1 hb1 hl1 hC1 => Zo Z Z Z (ow_box (R := RPacket) Z Z (VRep.mono hl1 h1) hC1 fun p2 w2 hp2 hb2 hl2 hC2 => Zo Z Z Z (Za Z Z (Zn (Ze (cw_seq (cw_seq (Zr (Zo Z Z Z (Zl (R := RPacket) Z Z hp2 (Tryd.sizeOf27 _) (Tryd.isAgg27 _) fun v1 hv1 => ?_)))))))))))))
 replace h := bind_some h
 obtain ⟨x1, hx1, h⟩ := h
 refine Zo Z Z Z (Zk Z Z Tryd.call141 (w_impl_Packet_fields (hG.mono (hl1.trans hl2)) hC2.old hv1 hx1) fun v2 w3 hv2 => ?_)
 obtain ⟨hv2, hb3⟩ := hv2
 have hl3 := Le.no M hb3
 have hC3 := hC2.no hb3
 refine Zo Z Z Z (Zm Z Z (Zn (Ze ?_)))
 replace h := bind_some h
 obtain ⟨lr1, hlr1, h⟩ := h
 refine cw_for hlr1 (fun s a w' => ∃ (M' : Nat → Prop), Fits 20 [(2, (.pointer (some p1))), (8, v2), (9, (.int .i64 s))] a ∧ Le w3 M w' M' ∧ Cx No w M w' M') ?_ ?_ ?_
 ·
  intro a ha
  exact ⟨M, ha.sub ⟨Z, Z, Z, trivial⟩, Le.refl _ _, hC3⟩
 ·
  rintro k1 a w4 sr1 ⟨M1, hF1, hl4, hC4⟩ hb4 hR1
  refine cw_at (E := [(2, (.pointer (some p1))), (8, v2), (9, (.int .i64 k1))]) hF1 (cw_seq (Zr (Zo Z Z Z (ow_lss Z Z Z fun bb1 hbb1 => Zn (Ze (cw_seq ?_))))))
  replace hb4 := Zc hb4
  rcases hb4 with ⟨hc1, hb4⟩ | ⟨hc1, hb4⟩
  ·
   obtain rfl := hbb1.trans hc1
   refine Zt Z (cw_skip (Ze (cw_seq (cw_block (cw_seq (Zr (Zo Z Z Z (Zm Z Z ?_))))))))
   replace hb4 := bind_some hb4
   obtain ⟨x2, hx2, hb4⟩ := hb4
   refine Zo Z Z Z (ow_index (R := RInt) Z Z Z (VRep.mono hl4 hv2) Tryd.underlying186 (Tryd.sizeOf3 _) (Tryd.isAgg3 _) hx2 fun v4 hv4 => ?_)
   obtain rfl := Zi hv4
   refine Zo Z Z Z (Za Z Z (Zo Z Z Z (Za Z Z (Zn (Ze (cw_seq (Zr (Zo Z Z Z (Zm Z Z ?_)))))))))
   replace hb4 := bind_some hb4
   obtain ⟨x3, hx3, hb4⟩ := hb4
   have lz1 := ((hl2.trans hl3).trans hl4)
   refine Zo Z Z Z (ow_indexArr (R := (RSlice RSpan)) Z Z Z (ARep.mono lz1 hp1) Tryd.underlying131 (Tryd.sizeOf121 _) hx3 fun p3 hp3 => Zo Z Z Z (Zl (R := (RSlice RSpan)) Z Z hp3 (Tryd.sizeOf121 _) (Tryd.isAgg121 _) fun v5 hv5 => Zo Z Z Z (Zm Z Z ?_)))
   replace hb4 := bind_some hb4
   obtain ⟨x4, hx4, hb4⟩ := hb4
   have lz2 := (((hl1.trans hl2).trans hl3).trans hl4)
   refine Zo Z Z Z (Zk Z Z Tryd.call84 (w_impl_SpansHave (hG.mono lz2) hC4.old hv5 hx4) fun v6 w5 hv6 => ?_)
   obtain ⟨hv6, hb5⟩ := hv6
   have hl5 := Le.no M1 hb5
   have hC5 := hC4.no hb5
   obtain rfl := vbool_eq hv6
   refine Zo Z Z Z (ow_not Z Z (Zn (Ze ?_)))
   replace hb4 := Zc hb4
   rcases hb4 with ⟨hc2, hb4⟩ | ⟨hc2, hb4⟩
   ·
    subst hc2
    exact Zu Z (cw_skip (ew_blockN (Ze (Zr (Zo Z Z Z (ow_add Z Z Z (Zo Z Z Z (Zm Z Z (Zn (ew_nxt (W (k1 + 1)) hb4 fun a ha => ⟨M1, (ha.sub ⟨Z, Z, Z, trivial⟩), (hl4.trans hl5), hC5⟩))))))))))
   ·
    subst hc2
    refine Zt Z (cw_seq (Zr (Zo Z Z Z (Za Z Z (Zn (Ze (Zy (ew_blockR (Zh (Zh (ew_blockR (ew_brkR (Zh ?_)))))))))))))
    have e1 := hR1 _ (sj hb4).symm
    subst e1
    obtain rfl := sj h
    exact ew_ret (res1 Z (.tmp Z)) ⟨_, Z, ((vbool _)), hC5.bx⟩
  ·
   obtain rfl := hbb1.trans hc1
   exact Zu Z (cw_exit (ew_thenX (ew_thenX (ew_blockX (ew_brk k1 hb4 fun a ha => ⟨M1, (ha.sub ⟨Z, Z, Z, trivial⟩), hl4, hC4⟩)))))
 ·
  rintro k2 a w6 hlr2 ⟨M2, hF2, hl6, hC6⟩
  subst hlr2
  refine ew_at (E := [(2, (.pointer (some p1))), (8, v2), (9, (.int .i64 k2))]) hF2 (Ze (cw_seq (Zr (Zo Z Z Z (Za Z Z (Zn (Ze (Zy ?_))))))))
  obtain rfl := sj h
  exact ew_ret (res1 Z (.tmp Z)) ⟨_, Z, ((vbool _)), hC6.bx⟩


end Go.PF
