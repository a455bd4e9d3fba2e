/- The walks; no condition. -/
import Derived.Test.YtadlmencjbangaaDoorProg
import Derived.Test.YtadlmencjbangaaDoorWk2
import Derived.Test.YtadlmencjbangaaDoorPFSeq
import Derived.Test.YtadlmencjbangaaDoorPFDrop
set_option maxRecDepth 100000
set_option maxHeartbeats 4000000
namespace Go.PF
open Go Go.RowKit Go.Proofs

theorem w_spec_SpansValid {w : World} {M : Nat → Prop} (hG : ARep (RArr 4 RShape) w M shapes ⟨0, 0, none⟩) (hO : ∀ b, M b → b < w.heap.size) {v0p : Value} {a_list : List Span} (h0 : VRep (RSlice RSpan) w M a_list v0p) {a_top : Int} {r : Bool} (h : F.spec_SpansValid a_list a_top = some r) :
  Calls Tryd.prog 38 [v0p, (.int .i64 a_top)].toArray w fun e w' => ∃ v, e = .returned v ∧ VRep RBool w' M r v ∧ BX No w w' := by
 have hC : Cx No w M w M := Cx.start hO (fun _ e => e.elim)
 refine walk (N := 60) Tryd.func38 Z Tryd.ntmps38 Z (cw_seq (Zr (Zo Z Z Z (Za Z Z (Zn (Ze (cw_seq (cw_seq (Zr (Zo Z Z Z (Za Z Z (Zn (Ze ?_)))))))))))))
 replace h := bind_some h
 obtain ⟨lr1, hlr1, h⟩ := h
 refine cw_for hlr1 (fun s a w' => ∃ (M' : Nat → Prop), Fits 60 [(0, v0p), (1, (.int .i64 a_top)), (5, (.int .i64 s))] a ∧ Le w M w' M' ∧ Cx No w M w' M') ?_ ?_ ?_
 ·
  intro a ha
  exact ⟨M, ha.sub ⟨Z, Z, Z, trivial⟩, Le.refl _ _, hC⟩
 ·
  rintro k1 a w1 sr1 ⟨M1, hF1, hl1, hC1⟩ hb1 hR1
  refine cw_at (E := [(0, v0p), (1, (.int .i64 a_top)), (5, (.int .i64 k1))]) hF1 (cw_seq (cw_seq (Zr (Zo Z Z Z (Zm Z Z (Zo Z Z Z (Zm Z Z (Zo Z Z Z (ow_len Z Z (VRep.mono hl1 h0) Tryd.underlying59 Z (Zo Z Z Z (ow_lss Z Z Z fun bb1 hbb1 => Zn (Ze ?_))))))))))))
  replace hb1 := Zc hb1
  rcases hb1 with ⟨hc1, hb1⟩ | ⟨hc1, hb1⟩
  ·
   obtain rfl := hbb1.trans hc1
   refine Zt Z (cw_skip (Ze (cw_seq (cw_block (cw_seq ?_)))))
   replace hb1 := bind_some hb1
   obtain ⟨x1, hx1, hb1⟩ := hb1
   replace hb1 := bind_some hb1
   obtain ⟨x2, hx2, hb1⟩ := hb1
   replace hb1 := Zc hb1
   rcases hb1 with ⟨hc2, hb1⟩ | ⟨hc2, hb1⟩
   ·
    subst hc2
    replace hb1 := bind_some hb1
    obtain ⟨x3, hx3, hb1⟩ := hb1
    replace hb1 := Zc hb1
    rcases hb1 with ⟨hc3, hb1⟩ | ⟨hc3, hb1⟩
    ·
     subst hc3
     replace hb1 := Zc hb1
     rcases hb1 with ⟨hc4, hb1⟩ | ⟨hc4, hb1⟩
     ·
      replace hb1 := bind_some hb1
      obtain ⟨x4, hx4, hb1⟩ := hb1
      refine cw_sub (E' := [(0, v0p), (1, (.int .i64 a_top)), (5, (.int .i64 k1))]) ⟨Z, Z, Z, trivial⟩ (cw_drawQ 38 [PV (RSlice RSpan) M1 a_list, PEq (.int .i64 k1), PA RSpan M1 x1, PA RInt M1 x1.Lo, PEq (.int .i64 x1.Lo), PV (RSlice RSpan) M1 a_list, PEq (.int .i64 k1), PA RSpan M1 x1, PA RInt M1 x1.Hi, PEq (.int .i64 x1.Hi), PEq (.bool true), PEq (.bool false), PEq (.bool false), PV (RSlice RSpan) M1 a_list, PEq (.int .i64 k1), PA RSpan M1 x1, PA RInt M1 x1.Hi, PEq (.int .i64 x1.Hi), PEq (.int .i64 a_top), PEq (.bool true), PEq (.bool false), PEq (.bool false), PEq (.bool false), PEq (.int .i64 k1), PEq (.bool true), PEq (.bool true), PV (RSlice RSpan) M1 a_list, PEq (.int .i64 k1), PA RSpan M1 x1, PA RInt M1 x1.Lo, PEq (.int .i64 x1.Lo), PV (RSlice RSpan) M1 a_list, PEq (.int .i64 k1), PEq (.int .i64 (W (k1 - 1))), PA RSpan M1 x4, PA RInt M1 x4.Hi, PEq (.int .i64 x4.Hi), PEq (.int .i64 (W (x4.Hi + 2)))] (by kernel_rfl) Z (by kernel_rfl) ⟨PV.mono _ _ _, Zq, PA.mono _ _ _, PA.mono _ _ _, Zq, PV.mono _ _ _, Zq, PA.mono _ _ _, PA.mono _ _ _, Zq, Zq, Zq, Zq, PV.mono _ _ _, Zq, PA.mono _ _ _, PA.mono _ _ _, Zq, Zq, Zq, Zq, Zq, Zq, Zq, Zq, Zq, PV.mono _ _ _, Zq, PA.mono _ _ _, PA.mono _ _ _, Zq, PV.mono _ _ _, Zq, Zq, PA.mono _ _ _, PA.mono _ _ _, Zq, Zq, trivial⟩ ⟨?_, ?_, ?_, ?_, ?_, ?_, ?_, ?_, ?_, ?_, ?_, ?_, ?_, ?_, ?_, ?_, ?_, ?_, ?_, ?_, ?_, ?_, ?_, ?_, ?_, ?_, ?_, ?_, ?_, ?_, ?_, ?_, ?_, ?_, ?_, ?_, ?_, ?_, trivial⟩ ?_)
      ·
       intro w4 D hS1 hd1
       have hl4 := Le.no M1 hS1
       exact Zs (E' := [(0, v0p)]) ⟨Z, trivial⟩ (Zp Z (Zm Z Z ⟨BX.refl _ _, (VRep.mono (hl1.trans hl4) h0)⟩))
      ·
       intro w5 D hS2 hd2
       exact Zs (E' := [(5, (.int .i64 k1))]) ⟨Z, trivial⟩ (Zp Z (Zm Z Z Zb))
      ·
       intro w6 D hS3 hd3
       have d1 : PV (RSlice RSpan) M1 a_list (D 0) w6 := dpA hd3 0 Z
       generalize hq1 : (D 0) = v9 at d1
       exact Zs (E' := [(12, v9), (13, (.int .i64 k1))]) ⟨(congrArg some hq1), (dpE hd3 1 Z Z), trivial⟩ (Zp Z (Zx (R := RSpan) Z Z Z d1 Tryd.underlying59 (Tryd.sizeOf69 _) hx1 fun p6 hp6 => ⟨BX.refl _ _, ⟨_, Z, hp6⟩⟩))
      ·
       intro w7 D hS4 hd4
       have d3 : PA RSpan M1 x1 (D 2) w7 := dpA hd4 2 Z
       obtain ⟨p7, e1, ha1⟩ := d3
       exact Zs (E' := [(14, (.pointer (some p7)))]) ⟨(congrArg some e1), trivial⟩ (Zp Z (Zf Z Z Tryd.underlying69 Z (Tryd.sizeOf3 _) ⟨BX.refl _ _, ⟨_, Z, (ha1.fld fld_Span_Lo)⟩⟩))
      ·
       intro w8 D hS5 hd5
       have d4 : PA RInt M1 x1.Lo (D 3) w8 := dpA hd5 3 Z
       obtain ⟨p8, e2, ha2⟩ := d4
       refine Zs (E' := [(15, (.pointer (some p8)))]) ⟨(congrArg some e2), trivial⟩ (Zp Z (Zl (R := RInt) Z Z ha2 (Tryd.sizeOf3 _) (Tryd.isAgg3 _) fun v10 hv10 => ?_))
       obtain rfl := Zi hv10
       exact Zb
      ·
       intro w9 D hS6 hd6
       have hl9 := Le.no M1 hS6
       exact Zs (E' := [(0, v0p)]) ⟨Z, trivial⟩ (Zp Z (Zm Z Z ⟨BX.refl _ _, (VRep.mono (hl1.trans hl9) h0)⟩))
      ·
       intro w10 D hS7 hd7
       exact Zs (E' := [(5, (.int .i64 k1))]) ⟨Z, trivial⟩ (Zp Z (Zm Z Z Zb))
      ·
       intro w11 D hS8 hd8
       have d5 : PV (RSlice RSpan) M1 a_list (D 5) w11 := dpA hd8 5 Z
       generalize hq2 : (D 5) = v11 at d5
       exact Zs (E' := [(17, v11), (18, (.int .i64 k1))]) ⟨(congrArg some hq2), (dpE hd8 6 Z Z), trivial⟩ (Zp Z (Zx (R := RSpan) Z Z Z d5 Tryd.underlying59 (Tryd.sizeOf69 _) hx1 fun p9 hp9 => ⟨BX.refl _ _, ⟨_, Z, hp9⟩⟩))
      ·
       intro w12 D hS9 hd9
       have d7 : PA RSpan M1 x1 (D 7) w12 := dpA hd9 7 Z
       obtain ⟨p10, e3, ha3⟩ := d7
       exact Zs (E' := [(19, (.pointer (some p10)))]) ⟨(congrArg some e3), trivial⟩ (Zp Z (Zf Z Z Tryd.underlying69 Z (Tryd.sizeOf3 _) ⟨BX.refl _ _, ⟨_, Z, (ha3.fld fld_Span_Hi)⟩⟩))
      ·
       intro w13 D hS10 hd10
       have d8 : PA RInt M1 x1.Hi (D 8) w13 := dpA hd10 8 Z
       obtain ⟨p11, e4, ha4⟩ := d8
       refine Zs (E' := [(20, (.pointer (some p11)))]) ⟨(congrArg some e4), trivial⟩ (Zp Z (Zl (R := RInt) Z Z ha4 (Tryd.sizeOf3 _) (Tryd.isAgg3 _) fun v12 hv12 => ?_))
       obtain rfl := Zi hv12
       exact Zb
      ·
       intro w14 D hS11 hd11
       have hl14 := Le.no M1 hS11
       have hC14 := hC1.no hS11
       refine Zs (E' := [(16, (.int .i64 x1.Lo)), (21, (.int .i64 x1.Hi))]) ⟨(dpE hd11 4 Z Z), (dpE hd11 9 Z Z), trivial⟩ (Zp Z (Zk Z Z Tryd.call76 (w_spec_l1In (hG.mono (hl1.trans hl14)) hC14.old hx2) fun v13 w15 hv13 => ?_))
       obtain ⟨hv13, hb4⟩ := hv13
       obtain rfl := vbool_eq hv13
       exact ⟨hb4, Z⟩
      ·
       intro w16 D hS12 hd12
       exact Zs (E' := [(22, (.bool true))]) ⟨(dpE hd12 10 Z Z), trivial⟩ (Zp Z (ow_not Z Z Zb))
      ·
       intro w17 D hS13 hd13
       exact Zs (E' := [(23, (.bool false))]) ⟨(dpE hd13 11 Z Z), trivial⟩ (Zp Z (Zm Z Z Zb))
      ·
       intro w18 D hS14 hd14
       have hl18 := Le.no M1 hS14
       exact Zs (E' := [(24, (.bool false)), (0, v0p)]) ⟨(dpE hd14 12 Z Z), Z, trivial⟩ (dg_on Z Z Z Z (Zm Z Z ⟨BX.refl _ _, (VRep.mono (hl1.trans hl18) h0)⟩))
      ·
       intro w19 D hS15 hd15
       exact Zs (E' := [(24, (.bool false)), (5, (.int .i64 k1))]) ⟨(dpE hd15 12 Z Z), Z, trivial⟩ (dg_on Z Z Z Z (Zm Z Z Zb))
      ·
       intro w20 D hS16 hd16
       have d16 : PV (RSlice RSpan) M1 a_list (D 13) w20 := dpA hd16 13 Z
       generalize hq3 : (D 13) = v14 at d16
       exact Zs (E' := [(25, v14), (26, (.int .i64 k1)), (24, (.bool false))]) ⟨(congrArg some hq3), (dpE hd16 14 Z Z), (dpE hd16 12 Z Z), trivial⟩ (dg_on Z Z Z Z (Zx (R := RSpan) Z Z Z d16 Tryd.underlying59 (Tryd.sizeOf69 _) hx1 fun p12 hp12 => ⟨BX.refl _ _, ⟨_, Z, hp12⟩⟩))
      ·
       intro w21 D hS17 hd17
       have d19 : PA RSpan M1 x1 (D 15) w21 := dpA hd17 15 Z
       obtain ⟨p13, e5, ha5⟩ := d19
       exact Zs (E' := [(27, (.pointer (some p13))), (24, (.bool false))]) ⟨(congrArg some e5), (dpE hd17 12 Z Z), trivial⟩ (dg_on Z Z Z Z (Zf Z Z Tryd.underlying69 Z (Tryd.sizeOf3 _) ⟨BX.refl _ _, ⟨_, Z, (ha5.fld fld_Span_Hi)⟩⟩))
      ·
       intro w22 D hS18 hd18
       have d21 : PA RInt M1 x1.Hi (D 16) w22 := dpA hd18 16 Z
       obtain ⟨p14, e6, ha6⟩ := d21
       refine Zs (E' := [(28, (.pointer (some p14))), (24, (.bool false))]) ⟨(congrArg some e6), (dpE hd18 12 Z Z), trivial⟩ (dg_on Z Z Z Z (Zl (R := RInt) Z Z ha6 (Tryd.sizeOf3 _) (Tryd.isAgg3 _) fun v15 hv15 => ?_))
       obtain rfl := Zi hv15
       exact Zb
      ·
       intro w23 D hS19 hd19
       exact Zs (E' := [(24, (.bool false)), (1, (.int .i64 a_top))]) ⟨(dpE hd19 12 Z Z), Z, trivial⟩ (dg_on Z Z Z Z (Zm Z Z Zb))
      ·
       intro w24 D hS20 hd20
       have hl24 := Le.no M1 hS20
       have hC24 := hC1.no hS20
       refine Zs (E' := [(29, (.int .i64 x1.Hi)), (30, (.int .i64 a_top)), (24, (.bool false))]) ⟨(dpE hd20 17 Z Z), (dpE hd20 18 Z Z), (dpE hd20 12 Z Z), trivial⟩ (dg_on Z Z Z Z (Zk Z Z Tryd.call76 (w_spec_l1In (hG.mono (hl1.trans hl24)) hC24.old hx3) fun v16 w25 hv16 => ?_))
       obtain ⟨hv16, hb5⟩ := hv16
       obtain rfl := vbool_eq hv16
       exact ⟨hb5, Z⟩
      ·
       intro w26 D hS21 hd21
       exact Zs (E' := [(31, (.bool true)), (24, (.bool false))]) ⟨(dpE hd21 19 Z Z), (dpE hd21 12 Z Z), trivial⟩ (dg_on Z Z Z Z (ow_not Z Z Zb))
      ·
       intro w27 D hS22 hd22
       exact Zs (E' := [(24, (.bool false)), (32, (.bool false))]) ⟨(dpE hd22 12 Z Z), (dpE hd22 20 Z Z), trivial⟩ (Zp Z (ow_pickF Z Z Z Zb))
      ·
       intro w28 D hS23 hd23
       exact Zs (E' := [(33, (.bool false))]) ⟨(dpE hd23 21 Z Z), trivial⟩ (Zp Z (Zm Z Z Zb))
      ·
       intro w29 D hS24 hd24
       exact Zs (E' := [(34, (.bool false)), (5, (.int .i64 k1))]) ⟨(dpE hd24 22 Z Z), Z, trivial⟩ (dg_on Z Z Z Z (Zm Z Z Zb))
      ·
       intro w30 D hS25 hd25
       refine Zs (E' := [(35, (.int .i64 k1)), (34, (.bool false))]) ⟨(dpE hd25 23 Z Z), (dpE hd25 22 Z Z), trivial⟩ (dg_on Z Z Z Z (ow_gtr Z Z Z fun bb3 hbb3 => ?_))
       obtain rfl := hbb3.trans hc4
       exact Zb
      ·
       intro w31 D hS26 hd26
       exact Zs (E' := [(36, (.bool true)), (34, (.bool false))]) ⟨(dpE hd26 24 Z Z), (dpE hd26 22 Z Z), trivial⟩ (dg_on Z Z Z Z (Zm Z Z Zb))
      ·
       intro w32 D hS27 hd27
       have hl32 := Le.no M1 hS27
       exact Zs (E' := [(37, (.bool true)), (0, v0p)]) ⟨(dpE hd27 25 Z Z), Z, trivial⟩ (dg_on Z Z Z Z (Zm Z Z ⟨BX.refl _ _, (VRep.mono (hl1.trans hl32) h0)⟩))
      ·
       intro w33 D hS28 hd28
       exact Zs (E' := [(37, (.bool true)), (5, (.int .i64 k1))]) ⟨(dpE hd28 25 Z Z), Z, trivial⟩ (dg_on Z Z Z Z (Zm Z Z Zb))
      ·
       intro w34 D hS29 hd29
       have d42 : PV (RSlice RSpan) M1 a_list (D 26) w34 := dpA hd29 26 Z
       generalize hq4 : (D 26) = v17 at d42
       exact Zs (E' := [(38, v17), (39, (.int .i64 k1)), (37, (.bool true))]) ⟨(congrArg some hq4), (dpE hd29 27 Z Z), (dpE hd29 25 Z Z), trivial⟩ (dg_on Z Z Z Z (Zx (R := RSpan) Z Z Z d42 Tryd.underlying59 (Tryd.sizeOf69 _) hx1 fun p15 hp15 => ⟨BX.refl _ _, ⟨_, Z, hp15⟩⟩))
      ·
       intro w35 D hS30 hd30
       have d45 : PA RSpan M1 x1 (D 28) w35 := dpA hd30 28 Z
       obtain ⟨p16, e7, ha7⟩ := d45
       exact Zs (E' := [(40, (.pointer (some p16))), (37, (.bool true))]) ⟨(congrArg some e7), (dpE hd30 25 Z Z), trivial⟩ (dg_on Z Z Z Z (Zf Z Z Tryd.underlying69 Z (Tryd.sizeOf3 _) ⟨BX.refl _ _, ⟨_, Z, (ha7.fld fld_Span_Lo)⟩⟩))
      ·
       intro w36 D hS31 hd31
       have d47 : PA RInt M1 x1.Lo (D 29) w36 := dpA hd31 29 Z
       obtain ⟨p17, e8, ha8⟩ := d47
       refine Zs (E' := [(41, (.pointer (some p17))), (37, (.bool true))]) ⟨(congrArg some e8), (dpE hd31 25 Z Z), trivial⟩ (dg_on Z Z Z Z (Zl (R := RInt) Z Z ha8 (Tryd.sizeOf3 _) (Tryd.isAgg3 _) fun v18 hv18 => ?_))
       obtain rfl := Zi hv18
       exact Zb
      ·
       intro w37 D hS32 hd32
       have hl37 := Le.no M1 hS32
       exact Zs (E' := [(37, (.bool true)), (0, v0p)]) ⟨(dpE hd32 25 Z Z), Z, trivial⟩ (dg_on Z Z Z Z (Zm Z Z ⟨BX.refl _ _, (VRep.mono (hl1.trans hl37) h0)⟩))
      ·
       intro w38 D hS33 hd33
       exact Zs (E' := [(37, (.bool true)), (5, (.int .i64 k1))]) ⟨(dpE hd33 25 Z Z), Z, trivial⟩ (dg_on Z Z Z Z (Zm Z Z Zb))
      ·
       intro w39 D hS34 hd34
       exact Zs (E' := [(44, (.int .i64 k1)), (37, (.bool true))]) ⟨(dpE hd34 32 Z Z), (dpE hd34 25 Z Z), trivial⟩ (dg_on Z Z Z Z (ow_sub Z Z Z Zb))
      ·
       intro w40 D hS35 hd35
       have d53 : PV (RSlice RSpan) M1 a_list (D 31) w40 := dpA hd35 31 Z
       generalize hq5 : (D 31) = v19 at d53
       exact Zs (E' := [(43, v19), (45, (.int .i64 (W (k1 - 1)))), (37, (.bool true))]) ⟨(congrArg some hq5), (dpE hd35 33 Z Z), (dpE hd35 25 Z Z), trivial⟩ (dg_on Z Z Z Z (Zx (R := RSpan) Z Z Z d53 Tryd.underlying59 (Tryd.sizeOf69 _) hx4 fun p18 hp18 => ⟨BX.refl _ _, ⟨_, Z, hp18⟩⟩))
      ·
       intro w41 D hS36 hd36
       have d56 : PA RSpan M1 x4 (D 34) w41 := dpA hd36 34 Z
       obtain ⟨p19, e9, ha9⟩ := d56
       exact Zs (E' := [(46, (.pointer (some p19))), (37, (.bool true))]) ⟨(congrArg some e9), (dpE hd36 25 Z Z), trivial⟩ (dg_on Z Z Z Z (Zf Z Z Tryd.underlying69 Z (Tryd.sizeOf3 _) ⟨BX.refl _ _, ⟨_, Z, (ha9.fld fld_Span_Hi)⟩⟩))
      ·
       intro w42 D hS37 hd37
       have d58 : PA RInt M1 x4.Hi (D 35) w42 := dpA hd37 35 Z
       obtain ⟨p20, e10, ha10⟩ := d58
       refine Zs (E' := [(47, (.pointer (some p20))), (37, (.bool true))]) ⟨(congrArg some e10), (dpE hd37 25 Z Z), trivial⟩ (dg_on Z Z Z Z (Zl (R := RInt) Z Z ha10 (Tryd.sizeOf3 _) (Tryd.isAgg3 _) fun v20 hv20 => ?_))
       obtain rfl := Zi hv20
       exact Zb
      ·
       intro w43 D hS38 hd38
       exact Zs (E' := [(48, (.int .i64 x4.Hi)), (37, (.bool true))]) ⟨(dpE hd38 36 Z Z), (dpE hd38 25 Z Z), trivial⟩ (dg_on Z Z Z Z (ow_add Z Z Z Zb))
      ·
       intro w44 D hS39 hd39
       have hl44 := Le.no M1 hS39
       have hC44 := hC1.no hS39
       refine lw_sub (E' := [(34, (.bool false)), (37, (.bool true)), (42, (.int .i64 x1.Lo)), (49, (.int .i64 (W (x4.Hi + 2)))), (0, v0p), (1, (.int .i64 a_top)), (5, (.int .i64 k1))]) ⟨(dpE hd39 22 Z Z), (dpE hd39 25 Z Z), (dpE hd39 30 Z Z), (dpE hd39 37 Z Z), Z, Z, Z, trivial⟩ (lw_on Z Z Z Z Z Z (ow_lss Z Z Z fun bb4 hbb4 => lw_on Z Z Z Z Z Z (ow_pickT Z Z Z (Zo Z Z Z (ow_pickF Z Z Z (Zn (Ze ?_)))))))
       replace hb1 := Zc hb1
       rcases hb1 with ⟨hc5, hb1⟩ | ⟨hc5, hb1⟩
       ·
        obtain rfl := hbb4.trans hc5
        refine Zt Z (cw_seq (Zr (Zo Z Z Z (Za Z Z (Zn (Ze (Zy (ew_blockR (Zh (Zh (ew_blockR (ew_brkR (Zh ?_)))))))))))))
        have e11 := hR1 _ (sj hb1).symm
        subst e11
        obtain rfl := sj h
        exact ew_ret (res1 Z (.tmp Z)) ⟨_, Z, ((vbool _)), hC44.bx⟩
       ·
        obtain rfl := hbb4.trans hc5
        exact Zu Z (cw_skip (ew_blockN (Ze (Zr (Zo Z Z Z (Zm Z Z (Zo Z Z Z (ow_add Z Z Z (Zo Z Z Z (Za Z Z (Zn (ew_nxt (W (k1 + 1)) hb1 fun a ha => ⟨M1, (ha.sub ⟨Z, Z, Z, trivial⟩), (hl1.trans hl44), hC44⟩))))))))))))
     ·
      refine cw_sub (E' := [(0, v0p), (1, (.int .i64 a_top)), (5, (.int .i64 k1))]) ⟨Z, Z, Z, trivial⟩ (cw_drawQ 38 [PV (RSlice RSpan) M1 a_list, PEq (.int .i64 k1), PA RSpan M1 x1, PA RInt M1 x1.Lo, PEq (.int .i64 x1.Lo), PV (RSlice RSpan) M1 a_list, PEq (.int .i64 k1), PA RSpan M1 x1, PA RInt M1 x1.Hi, PEq (.int .i64 x1.Hi), PEq (.bool true), PEq (.bool false), PEq (.bool false), PV (RSlice RSpan) M1 a_list, PEq (.int .i64 k1), PA RSpan M1 x1, PA RInt M1 x1.Hi, PEq (.int .i64 x1.Hi), PEq (.int .i64 a_top), PEq (.bool true), PEq (.bool false), PEq (.bool false), PEq (.bool false), PEq (.int .i64 k1), PEq (.bool false), PEq (.bool false), PEq undef, PEq undef, PEq undef, PEq undef, PEq undef, PEq undef, PEq undef, PEq undef, PEq undef, PEq undef, PEq undef, PEq undef] (by kernel_rfl) Z (by kernel_rfl) ⟨PV.mono _ _ _, Zq, PA.mono _ _ _, PA.mono _ _ _, Zq, PV.mono _ _ _, Zq, PA.mono _ _ _, PA.mono _ _ _, Zq, Zq, Zq, Zq, PV.mono _ _ _, Zq, PA.mono _ _ _, PA.mono _ _ _, Zq, Zq, Zq, Zq, Zq, Zq, Zq, Zq, Zq, Zq, Zq, Zq, Zq, Zq, Zq, Zq, Zq, Zq, Zq, Zq, Zq, trivial⟩ ⟨?_, ?_, ?_, ?_, ?_, ?_, ?_, ?_, ?_, ?_, ?_, ?_, ?_, ?_, ?_, ?_, ?_, ?_, ?_, ?_, ?_, ?_, ?_, ?_, ?_, ?_, ?_, ?_, ?_, ?_, ?_, ?_, ?_, ?_, ?_, ?_, ?_, ?_, trivial⟩ ?_)
      ·
       intro w45 D hS40 hd40
       have hl45 := Le.no M1 hS40
       exact Zs (E' := [(0, v0p)]) ⟨Z, trivial⟩ (Zp Z (Zm Z Z ⟨BX.refl _ _, (VRep.mono (hl1.trans hl45) h0)⟩))
      ·
       intro w46 D hS41 hd41
       exact Zs (E' := [(5, (.int .i64 k1))]) ⟨Z, trivial⟩ (Zp Z (Zm Z Z Zb))
      ·
       intro w47 D hS42 hd42
       have d100 : PV (RSlice RSpan) M1 a_list (D 0) w47 := dpA hd42 0 Z
       generalize hq6 : (D 0) = v21 at d100
       exact Zs (E' := [(12, v21), (13, (.int .i64 k1))]) ⟨(congrArg some hq6), (dpE hd42 1 Z Z), trivial⟩ (Zp Z (Zx (R := RSpan) Z Z Z d100 Tryd.underlying59 (Tryd.sizeOf69 _) hx1 fun p21 hp21 => ⟨BX.refl _ _, ⟨_, Z, hp21⟩⟩))
      ·
       intro w48 D hS43 hd43
       have d102 : PA RSpan M1 x1 (D 2) w48 := dpA hd43 2 Z
       obtain ⟨p22, e12, ha11⟩ := d102
       exact Zs (E' := [(14, (.pointer (some p22)))]) ⟨(congrArg some e12), trivial⟩ (Zp Z (Zf Z Z Tryd.underlying69 Z (Tryd.sizeOf3 _) ⟨BX.refl _ _, ⟨_, Z, (ha11.fld fld_Span_Lo)⟩⟩))
      ·
       intro w49 D hS44 hd44
       have d103 : PA RInt M1 x1.Lo (D 3) w49 := dpA hd44 3 Z
       obtain ⟨p23, e13, ha12⟩ := d103
       refine Zs (E' := [(15, (.pointer (some p23)))]) ⟨(congrArg some e13), trivial⟩ (Zp Z (Zl (R := RInt) Z Z ha12 (Tryd.sizeOf3 _) (Tryd.isAgg3 _) fun v22 hv22 => ?_))
       obtain rfl := Zi hv22
       exact Zb
      ·
       intro w50 D hS45 hd45
       have hl50 := Le.no M1 hS45
       exact Zs (E' := [(0, v0p)]) ⟨Z, trivial⟩ (Zp Z (Zm Z Z ⟨BX.refl _ _, (VRep.mono (hl1.trans hl50) h0)⟩))
      ·
       intro w51 D hS46 hd46
       exact Zs (E' := [(5, (.int .i64 k1))]) ⟨Z, trivial⟩ (Zp Z (Zm Z Z Zb))
      ·
       intro w52 D hS47 hd47
       have d104 : PV (RSlice RSpan) M1 a_list (D 5) w52 := dpA hd47 5 Z
       generalize hq7 : (D 5) = v23 at d104
       exact Zs (E' := [(17, v23), (18, (.int .i64 k1))]) ⟨(congrArg some hq7), (dpE hd47 6 Z Z), trivial⟩ (Zp Z (Zx (R := RSpan) Z Z Z d104 Tryd.underlying59 (Tryd.sizeOf69 _) hx1 fun p24 hp24 => ⟨BX.refl _ _, ⟨_, Z, hp24⟩⟩))
      ·
       intro w53 D hS48 hd48
       have d106 : PA RSpan M1 x1 (D 7) w53 := dpA hd48 7 Z
       obtain ⟨p25, e14, ha13⟩ := d106
       exact Zs (E' := [(19, (.pointer (some p25)))]) ⟨(congrArg some e14), trivial⟩ (Zp Z (Zf Z Z Tryd.underlying69 Z (Tryd.sizeOf3 _) ⟨BX.refl _ _, ⟨_, Z, (ha13.fld fld_Span_Hi)⟩⟩))
      ·
       intro w54 D hS49 hd49
       have d107 : PA RInt M1 x1.Hi (D 8) w54 := dpA hd49 8 Z
       obtain ⟨p26, e15, ha14⟩ := d107
       refine Zs (E' := [(20, (.pointer (some p26)))]) ⟨(congrArg some e15), trivial⟩ (Zp Z (Zl (R := RInt) Z Z ha14 (Tryd.sizeOf3 _) (Tryd.isAgg3 _) fun v24 hv24 => ?_))
       obtain rfl := Zi hv24
       exact Zb
      ·
       intro w55 D hS50 hd50
       have hl55 := Le.no M1 hS50
       have hC55 := hC1.no hS50
       refine Zs (E' := [(16, (.int .i64 x1.Lo)), (21, (.int .i64 x1.Hi))]) ⟨(dpE hd50 4 Z Z), (dpE hd50 9 Z Z), trivial⟩ (Zp Z (Zk Z Z Tryd.call76 (w_spec_l1In (hG.mono (hl1.trans hl55)) hC55.old hx2) fun v25 w56 hv25 => ?_))
       obtain ⟨hv25, hb6⟩ := hv25
       obtain rfl := vbool_eq hv25
       exact ⟨hb6, Z⟩
      ·
       intro w57 D hS51 hd51
       exact Zs (E' := [(22, (.bool true))]) ⟨(dpE hd51 10 Z Z), trivial⟩ (Zp Z (ow_not Z Z Zb))
      ·
       intro w58 D hS52 hd52
       exact Zs (E' := [(23, (.bool false))]) ⟨(dpE hd52 11 Z Z), trivial⟩ (Zp Z (Zm Z Z Zb))
      ·
       intro w59 D hS53 hd53
       have hl59 := Le.no M1 hS53
       exact Zs (E' := [(24, (.bool false)), (0, v0p)]) ⟨(dpE hd53 12 Z Z), Z, trivial⟩ (dg_on Z Z Z Z (Zm Z Z ⟨BX.refl _ _, (VRep.mono (hl1.trans hl59) h0)⟩))
      ·
       intro w60 D hS54 hd54
       exact Zs (E' := [(24, (.bool false)), (5, (.int .i64 k1))]) ⟨(dpE hd54 12 Z Z), Z, trivial⟩ (dg_on Z Z Z Z (Zm Z Z Zb))
      ·
       intro w61 D hS55 hd55
       have d115 : PV (RSlice RSpan) M1 a_list (D 13) w61 := dpA hd55 13 Z
       generalize hq8 : (D 13) = v26 at d115
       exact Zs (E' := [(25, v26), (26, (.int .i64 k1)), (24, (.bool false))]) ⟨(congrArg some hq8), (dpE hd55 14 Z Z), (dpE hd55 12 Z Z), trivial⟩ (dg_on Z Z Z Z (Zx (R := RSpan) Z Z Z d115 Tryd.underlying59 (Tryd.sizeOf69 _) hx1 fun p27 hp27 => ⟨BX.refl _ _, ⟨_, Z, hp27⟩⟩))
      ·
       intro w62 D hS56 hd56
       have d118 : PA RSpan M1 x1 (D 15) w62 := dpA hd56 15 Z
       obtain ⟨p28, e16, ha15⟩ := d118
       exact Zs (E' := [(27, (.pointer (some p28))), (24, (.bool false))]) ⟨(congrArg some e16), (dpE hd56 12 Z Z), trivial⟩ (dg_on Z Z Z Z (Zf Z Z Tryd.underlying69 Z (Tryd.sizeOf3 _) ⟨BX.refl _ _, ⟨_, Z, (ha15.fld fld_Span_Hi)⟩⟩))
      ·
       intro w63 D hS57 hd57
       have d120 : PA RInt M1 x1.Hi (D 16) w63 := dpA hd57 16 Z
       obtain ⟨p29, e17, ha16⟩ := d120
       refine Zs (E' := [(28, (.pointer (some p29))), (24, (.bool false))]) ⟨(congrArg some e17), (dpE hd57 12 Z Z), trivial⟩ (dg_on Z Z Z Z (Zl (R := RInt) Z Z ha16 (Tryd.sizeOf3 _) (Tryd.isAgg3 _) fun v27 hv27 => ?_))
       obtain rfl := Zi hv27
       exact Zb
      ·
       intro w64 D hS58 hd58
       exact Zs (E' := [(24, (.bool false)), (1, (.int .i64 a_top))]) ⟨(dpE hd58 12 Z Z), Z, trivial⟩ (dg_on Z Z Z Z (Zm Z Z Zb))
      ·
       intro w65 D hS59 hd59
       have hl65 := Le.no M1 hS59
       have hC65 := hC1.no hS59
       refine Zs (E' := [(29, (.int .i64 x1.Hi)), (30, (.int .i64 a_top)), (24, (.bool false))]) ⟨(dpE hd59 17 Z Z), (dpE hd59 18 Z Z), (dpE hd59 12 Z Z), trivial⟩ (dg_on Z Z Z Z (Zk Z Z Tryd.call76 (w_spec_l1In (hG.mono (hl1.trans hl65)) hC65.old hx3) fun v28 w66 hv28 => ?_))
       obtain ⟨hv28, hb7⟩ := hv28
       obtain rfl := vbool_eq hv28
       exact ⟨hb7, Z⟩
      ·
       intro w67 D hS60 hd60
       exact Zs (E' := [(31, (.bool true)), (24, (.bool false))]) ⟨(dpE hd60 19 Z Z), (dpE hd60 12 Z Z), trivial⟩ (dg_on Z Z Z Z (ow_not Z Z Zb))
      ·
       intro w68 D hS61 hd61
       exact Zs (E' := [(24, (.bool false)), (32, (.bool false))]) ⟨(dpE hd61 12 Z Z), (dpE hd61 20 Z Z), trivial⟩ (Zp Z (ow_pickF Z Z Z Zb))
      ·
       intro w69 D hS62 hd62
       exact Zs (E' := [(33, (.bool false))]) ⟨(dpE hd62 21 Z Z), trivial⟩ (Zp Z (Zm Z Z Zb))
      ·
       intro w70 D hS63 hd63
       exact Zs (E' := [(34, (.bool false)), (5, (.int .i64 k1))]) ⟨(dpE hd63 22 Z Z), Z, trivial⟩ (dg_on Z Z Z Z (Zm Z Z Zb))
      ·
       intro w71 D hS64 hd64
       refine Zs (E' := [(35, (.int .i64 k1)), (34, (.bool false))]) ⟨(dpE hd64 23 Z Z), (dpE hd64 22 Z Z), trivial⟩ (dg_on Z Z Z Z (ow_gtr Z Z Z fun bb5 hbb5 => ?_))
       obtain rfl := hbb5.trans hc4
       exact Zb
      ·
       intro w72 D hS65 hd65
       exact Zs (E' := [(36, (.bool false)), (34, (.bool false))]) ⟨(dpE hd65 24 Z Z), (dpE hd65 22 Z Z), trivial⟩ (dg_on Z Z Z Z (Zm Z Z Zb))
      ·
       intro w73 D hS66 hd66
       exact Zs (E' := [(37, (.bool false)), (0, v0p)]) ⟨(dpE hd66 25 Z Z), Z, trivial⟩ (dg_off Z Z Z Z Zb)
      ·
       intro w74 D hS67 hd67
       exact Zs (E' := [(37, (.bool false)), (5, (.int .i64 k1))]) ⟨(dpE hd67 25 Z Z), Z, trivial⟩ (dg_off Z Z Z Z Zb)
      ·
       intro w75 D hS68 hd68
       exact Zs (E' := [(38, undef), (39, undef), (37, (.bool false))]) ⟨(dpE hd68 26 Z Z), (dpE hd68 27 Z Z), (dpE hd68 25 Z Z), trivial⟩ (dg_off Z Z Z Z Zb)
      ·
       intro w76 D hS69 hd69
       exact Zs (E' := [(40, undef), (37, (.bool false))]) ⟨(dpE hd69 28 Z Z), (dpE hd69 25 Z Z), trivial⟩ (dg_off Z Z Z Z Zb)
      ·
       intro w77 D hS70 hd70
       exact Zs (E' := [(41, undef), (37, (.bool false))]) ⟨(dpE hd70 29 Z Z), (dpE hd70 25 Z Z), trivial⟩ (dg_off Z Z Z Z Zb)
      ·
       intro w78 D hS71 hd71
       exact Zs (E' := [(37, (.bool false)), (0, v0p)]) ⟨(dpE hd71 25 Z Z), Z, trivial⟩ (dg_off Z Z Z Z Zb)
      ·
       intro w79 D hS72 hd72
       exact Zs (E' := [(37, (.bool false)), (5, (.int .i64 k1))]) ⟨(dpE hd72 25 Z Z), Z, trivial⟩ (dg_off Z Z Z Z Zb)
      ·
       intro w80 D hS73 hd73
       exact Zs (E' := [(44, undef), (37, (.bool false))]) ⟨(dpE hd73 32 Z Z), (dpE hd73 25 Z Z), trivial⟩ (dg_off Z Z Z Z Zb)
      ·
       intro w81 D hS74 hd74
       exact Zs (E' := [(43, undef), (45, undef), (37, (.bool false))]) ⟨(dpE hd74 31 Z Z), (dpE hd74 33 Z Z), (dpE hd74 25 Z Z), trivial⟩ (dg_off Z Z Z Z Zb)
      ·
       intro w82 D hS75 hd75
       exact Zs (E' := [(46, undef), (37, (.bool false))]) ⟨(dpE hd75 34 Z Z), (dpE hd75 25 Z Z), trivial⟩ (dg_off Z Z Z Z Zb)
      ·
       intro w83 D hS76 hd76
       exact Zs (E' := [(47, undef), (37, (.bool false))]) ⟨(dpE hd76 35 Z Z), (dpE hd76 25 Z Z), trivial⟩ (dg_off Z Z Z Z Zb)
      ·
       intro w84 D hS77 hd77
       exact Zs (E' := [(48, undef), (37, (.bool false))]) ⟨(dpE hd77 36 Z Z), (dpE hd77 25 Z Z), trivial⟩ (dg_off Z Z Z Z Zb)
      ·
       intro w85 D hS78 hd78
       have hl85 := Le.no M1 hS78
       have hC85 := hC1.no hS78
       exact lw_sub (E' := [(34, (.bool false)), (37, (.bool false)), (42, undef), (49, undef), (0, v0p), (1, (.int .i64 a_top)), (5, (.int .i64 k1))]) ⟨(dpE hd78 22 Z Z), (dpE hd78 25 Z Z), (dpE hd78 30 Z Z), (dpE hd78 37 Z Z), Z, Z, Z, trivial⟩ (lw_off Z Z Z Z Z Z (lw_on Z Z Z Z Z Z (ow_pickF Z Z Z (Zo Z Z Z (ow_pickF Z Z Z (Zn (Ze (Zu Z (cw_skip (ew_blockN (Ze (Zr (Zo Z Z Z (Zm Z Z (Zo Z Z Z (ow_add Z Z Z (Zo Z Z Z (Za Z Z (Zn (ew_nxt (W (k1 + 1)) hb1 fun a ha => ⟨M1, (ha.sub ⟨Z, Z, Z, trivial⟩), (hl1.trans hl85), hC85⟩))))))))))))))))))))
    ·
     subst hc3
     refine cw_sub (E' := [(0, v0p), (1, (.int .i64 a_top)), (5, (.int .i64 k1))]) ⟨Z, Z, Z, trivial⟩ (cw_drawQ 38 [PV (RSlice RSpan) M1 a_list, PEq (.int .i64 k1), PA RSpan M1 x1, PA RInt M1 x1.Lo, PEq (.int .i64 x1.Lo), PV (RSlice RSpan) M1 a_list, PEq (.int .i64 k1), PA RSpan M1 x1, PA RInt M1 x1.Hi, PEq (.int .i64 x1.Hi), PEq (.bool true), PEq (.bool false), PEq (.bool false), PV (RSlice RSpan) M1 a_list, PEq (.int .i64 k1), PA RSpan M1 x1, PA RInt M1 x1.Hi, PEq (.int .i64 x1.Hi), PEq (.int .i64 a_top), PEq (.bool false), PEq (.bool true), PEq (.bool true), PEq (.bool true), PEq undef, PEq undef, PEq undef, PEq undef, PEq undef, PEq undef, PEq undef, PEq undef, PEq undef, PEq undef, PEq undef, PEq undef, PEq undef, PEq undef, PEq undef] (by kernel_rfl) Z (by kernel_rfl) ⟨PV.mono _ _ _, Zq, PA.mono _ _ _, PA.mono _ _ _, Zq, PV.mono _ _ _, Zq, PA.mono _ _ _, PA.mono _ _ _, Zq, Zq, Zq, Zq, PV.mono _ _ _, Zq, PA.mono _ _ _, PA.mono _ _ _, Zq, Zq, Zq, Zq, Zq, Zq, Zq, Zq, Zq, Zq, Zq, Zq, Zq, Zq, Zq, Zq, Zq, Zq, Zq, Zq, Zq, trivial⟩ ⟨?_, ?_, ?_, ?_, ?_, ?_, ?_, ?_, ?_, ?_, ?_, ?_, ?_, ?_, ?_, ?_, ?_, ?_, ?_, ?_, ?_, ?_, ?_, ?_, ?_, ?_, ?_, ?_, ?_, ?_, ?_, ?_, ?_, ?_, ?_, ?_, ?_, ?_, trivial⟩ ?_)
     ·
      intro w86 D hS79 hd79
      have hl86 := Le.no M1 hS79
      exact Zs (E' := [(0, v0p)]) ⟨Z, trivial⟩ (Zp Z (Zm Z Z ⟨BX.refl _ _, (VRep.mono (hl1.trans hl86) h0)⟩))
     ·
      intro w87 D hS80 hd80
      exact Zs (E' := [(5, (.int .i64 k1))]) ⟨Z, trivial⟩ (Zp Z (Zm Z Z Zb))
     ·
      intro w88 D hS81 hd81
      have d199 : PV (RSlice RSpan) M1 a_list (D 0) w88 := dpA hd81 0 Z
      generalize hq9 : (D 0) = v29 at d199
      exact Zs (E' := [(12, v29), (13, (.int .i64 k1))]) ⟨(congrArg some hq9), (dpE hd81 1 Z Z), trivial⟩ (Zp Z (Zx (R := RSpan) Z Z Z d199 Tryd.underlying59 (Tryd.sizeOf69 _) hx1 fun p30 hp30 => ⟨BX.refl _ _, ⟨_, Z, hp30⟩⟩))
     ·
      intro w89 D hS82 hd82
      have d201 : PA RSpan M1 x1 (D 2) w89 := dpA hd82 2 Z
      obtain ⟨p31, e18, ha17⟩ := d201
      exact Zs (E' := [(14, (.pointer (some p31)))]) ⟨(congrArg some e18), trivial⟩ (Zp Z (Zf Z Z Tryd.underlying69 Z (Tryd.sizeOf3 _) ⟨BX.refl _ _, ⟨_, Z, (ha17.fld fld_Span_Lo)⟩⟩))
     ·
      intro w90 D hS83 hd83
      have d202 : PA RInt M1 x1.Lo (D 3) w90 := dpA hd83 3 Z
      obtain ⟨p32, e19, ha18⟩ := d202
      refine Zs (E' := [(15, (.pointer (some p32)))]) ⟨(congrArg some e19), trivial⟩ (Zp Z (Zl (R := RInt) Z Z ha18 (Tryd.sizeOf3 _) (Tryd.isAgg3 _) fun v30 hv30 => ?_))
      obtain rfl := Zi hv30
      exact Zb
     ·
      intro w91 D hS84 hd84
      have hl91 := Le.no M1 hS84
      exact Zs (E' := [(0, v0p)]) ⟨Z, trivial⟩ (Zp Z (Zm Z Z ⟨BX.refl _ _, (VRep.mono (hl1.trans hl91) h0)⟩))
     ·
      intro w92 D hS85 hd85
      exact Zs (E' := [(5, (.int .i64 k1))]) ⟨Z, trivial⟩ (Zp Z (Zm Z Z Zb))
     ·
      intro w93 D hS86 hd86
      have d203 : PV (RSlice RSpan) M1 a_list (D 5) w93 := dpA hd86 5 Z
      generalize hq10 : (D 5) = v31 at d203
      exact Zs (E' := [(17, v31), (18, (.int .i64 k1))]) ⟨(congrArg some hq10), (dpE hd86 6 Z Z), trivial⟩ (Zp Z (Zx (R := RSpan) Z Z Z d203 Tryd.underlying59 (Tryd.sizeOf69 _) hx1 fun p33 hp33 => ⟨BX.refl _ _, ⟨_, Z, hp33⟩⟩))
     ·
      intro w94 D hS87 hd87
      have d205 : PA RSpan M1 x1 (D 7) w94 := dpA hd87 7 Z
      obtain ⟨p34, e20, ha19⟩ := d205
      exact Zs (E' := [(19, (.pointer (some p34)))]) ⟨(congrArg some e20), trivial⟩ (Zp Z (Zf Z Z Tryd.underlying69 Z (Tryd.sizeOf3 _) ⟨BX.refl _ _, ⟨_, Z, (ha19.fld fld_Span_Hi)⟩⟩))
     ·
      intro w95 D hS88 hd88
      have d206 : PA RInt M1 x1.Hi (D 8) w95 := dpA hd88 8 Z
      obtain ⟨p35, e21, ha20⟩ := d206
      refine Zs (E' := [(20, (.pointer (some p35)))]) ⟨(congrArg some e21), trivial⟩ (Zp Z (Zl (R := RInt) Z Z ha20 (Tryd.sizeOf3 _) (Tryd.isAgg3 _) fun v32 hv32 => ?_))
      obtain rfl := Zi hv32
      exact Zb
     ·
      intro w96 D hS89 hd89
      have hl96 := Le.no M1 hS89
      have hC96 := hC1.no hS89
      refine Zs (E' := [(16, (.int .i64 x1.Lo)), (21, (.int .i64 x1.Hi))]) ⟨(dpE hd89 4 Z Z), (dpE hd89 9 Z Z), trivial⟩ (Zp Z (Zk Z Z Tryd.call76 (w_spec_l1In (hG.mono (hl1.trans hl96)) hC96.old hx2) fun v33 w97 hv33 => ?_))
      obtain ⟨hv33, hb8⟩ := hv33
      obtain rfl := vbool_eq hv33
      exact ⟨hb8, Z⟩
     ·
      intro w98 D hS90 hd90
      exact Zs (E' := [(22, (.bool true))]) ⟨(dpE hd90 10 Z Z), trivial⟩ (Zp Z (ow_not Z Z Zb))
     ·
      intro w99 D hS91 hd91
      exact Zs (E' := [(23, (.bool false))]) ⟨(dpE hd91 11 Z Z), trivial⟩ (Zp Z (Zm Z Z Zb))
     ·
      intro w100 D hS92 hd92
      have hl100 := Le.no M1 hS92
      exact Zs (E' := [(24, (.bool false)), (0, v0p)]) ⟨(dpE hd92 12 Z Z), Z, trivial⟩ (dg_on Z Z Z Z (Zm Z Z ⟨BX.refl _ _, (VRep.mono (hl1.trans hl100) h0)⟩))
     ·
      intro w101 D hS93 hd93
      exact Zs (E' := [(24, (.bool false)), (5, (.int .i64 k1))]) ⟨(dpE hd93 12 Z Z), Z, trivial⟩ (dg_on Z Z Z Z (Zm Z Z Zb))
     ·
      intro w102 D hS94 hd94
      have d214 : PV (RSlice RSpan) M1 a_list (D 13) w102 := dpA hd94 13 Z
      generalize hq11 : (D 13) = v34 at d214
      exact Zs (E' := [(25, v34), (26, (.int .i64 k1)), (24, (.bool false))]) ⟨(congrArg some hq11), (dpE hd94 14 Z Z), (dpE hd94 12 Z Z), trivial⟩ (dg_on Z Z Z Z (Zx (R := RSpan) Z Z Z d214 Tryd.underlying59 (Tryd.sizeOf69 _) hx1 fun p36 hp36 => ⟨BX.refl _ _, ⟨_, Z, hp36⟩⟩))
     ·
      intro w103 D hS95 hd95
      have d217 : PA RSpan M1 x1 (D 15) w103 := dpA hd95 15 Z
      obtain ⟨p37, e22, ha21⟩ := d217
      exact Zs (E' := [(27, (.pointer (some p37))), (24, (.bool false))]) ⟨(congrArg some e22), (dpE hd95 12 Z Z), trivial⟩ (dg_on Z Z Z Z (Zf Z Z Tryd.underlying69 Z (Tryd.sizeOf3 _) ⟨BX.refl _ _, ⟨_, Z, (ha21.fld fld_Span_Hi)⟩⟩))
     ·
      intro w104 D hS96 hd96
      have d219 : PA RInt M1 x1.Hi (D 16) w104 := dpA hd96 16 Z
      obtain ⟨p38, e23, ha22⟩ := d219
      refine Zs (E' := [(28, (.pointer (some p38))), (24, (.bool false))]) ⟨(congrArg some e23), (dpE hd96 12 Z Z), trivial⟩ (dg_on Z Z Z Z (Zl (R := RInt) Z Z ha22 (Tryd.sizeOf3 _) (Tryd.isAgg3 _) fun v35 hv35 => ?_))
      obtain rfl := Zi hv35
      exact Zb
     ·
      intro w105 D hS97 hd97
      exact Zs (E' := [(24, (.bool false)), (1, (.int .i64 a_top))]) ⟨(dpE hd97 12 Z Z), Z, trivial⟩ (dg_on Z Z Z Z (Zm Z Z Zb))
     ·
      intro w106 D hS98 hd98
      have hl106 := Le.no M1 hS98
      have hC106 := hC1.no hS98
      refine Zs (E' := [(29, (.int .i64 x1.Hi)), (30, (.int .i64 a_top)), (24, (.bool false))]) ⟨(dpE hd98 17 Z Z), (dpE hd98 18 Z Z), (dpE hd98 12 Z Z), trivial⟩ (dg_on Z Z Z Z (Zk Z Z Tryd.call76 (w_spec_l1In (hG.mono (hl1.trans hl106)) hC106.old hx3) fun v36 w107 hv36 => ?_))
      obtain ⟨hv36, hb9⟩ := hv36
      obtain rfl := vbool_eq hv36
      exact ⟨hb9, Z⟩
     ·
      intro w108 D hS99 hd99
      exact Zs (E' := [(31, (.bool false)), (24, (.bool false))]) ⟨(dpE hd99 19 Z Z), (dpE hd99 12 Z Z), trivial⟩ (dg_on Z Z Z Z (ow_not Z Z Zb))
     ·
      intro w109 D hS100 hd100
      exact Zs (E' := [(24, (.bool false)), (32, (.bool true))]) ⟨(dpE hd100 12 Z Z), (dpE hd100 20 Z Z), trivial⟩ (Zp Z (ow_pickF Z Z Z Zb))
     ·
      intro w110 D hS101 hd101
      exact Zs (E' := [(33, (.bool true))]) ⟨(dpE hd101 21 Z Z), trivial⟩ (Zp Z (Zm Z Z Zb))
     ·
      intro w111 D hS102 hd102
      exact Zs (E' := [(34, (.bool true)), (5, (.int .i64 k1))]) ⟨(dpE hd102 22 Z Z), Z, trivial⟩ (dg_off Z Z Z Z Zb)
     ·
      intro w112 D hS103 hd103
      exact Zs (E' := [(35, undef), (34, (.bool true))]) ⟨(dpE hd103 23 Z Z), (dpE hd103 22 Z Z), trivial⟩ (dg_off Z Z Z Z Zb)
     ·
      intro w113 D hS104 hd104
      exact Zs (E' := [(36, undef), (34, (.bool true))]) ⟨(dpE hd104 24 Z Z), (dpE hd104 22 Z Z), trivial⟩ (dg_off Z Z Z Z Zb)
     ·
      intro w114 D hS105 hd105
      exact Zs (E' := [(37, undef), (0, v0p)]) ⟨(dpE hd105 25 Z Z), Z, trivial⟩ (dg_off' Z Z Z Z Zb)
     ·
      intro w115 D hS106 hd106
      exact Zs (E' := [(37, undef), (5, (.int .i64 k1))]) ⟨(dpE hd106 25 Z Z), Z, trivial⟩ (dg_off' Z Z Z Z Zb)
     ·
      intro w116 D hS107 hd107
      exact Zs (E' := [(38, undef), (39, undef), (37, undef)]) ⟨(dpE hd107 26 Z Z), (dpE hd107 27 Z Z), (dpE hd107 25 Z Z), trivial⟩ (dg_off' Z Z Z Z Zb)
     ·
      intro w117 D hS108 hd108
      exact Zs (E' := [(40, undef), (37, undef)]) ⟨(dpE hd108 28 Z Z), (dpE hd108 25 Z Z), trivial⟩ (dg_off' Z Z Z Z Zb)
     ·
      intro w118 D hS109 hd109
      exact Zs (E' := [(41, undef), (37, undef)]) ⟨(dpE hd109 29 Z Z), (dpE hd109 25 Z Z), trivial⟩ (dg_off' Z Z Z Z Zb)
     ·
      intro w119 D hS110 hd110
      exact Zs (E' := [(37, undef), (0, v0p)]) ⟨(dpE hd110 25 Z Z), Z, trivial⟩ (dg_off' Z Z Z Z Zb)
     ·
      intro w120 D hS111 hd111
      exact Zs (E' := [(37, undef), (5, (.int .i64 k1))]) ⟨(dpE hd111 25 Z Z), Z, trivial⟩ (dg_off' Z Z Z Z Zb)
     ·
      intro w121 D hS112 hd112
      exact Zs (E' := [(44, undef), (37, undef)]) ⟨(dpE hd112 32 Z Z), (dpE hd112 25 Z Z), trivial⟩ (dg_off' Z Z Z Z Zb)
     ·
      intro w122 D hS113 hd113
      exact Zs (E' := [(43, undef), (45, undef), (37, undef)]) ⟨(dpE hd113 31 Z Z), (dpE hd113 33 Z Z), (dpE hd113 25 Z Z), trivial⟩ (dg_off' Z Z Z Z Zb)
     ·
      intro w123 D hS114 hd114
      exact Zs (E' := [(46, undef), (37, undef)]) ⟨(dpE hd114 34 Z Z), (dpE hd114 25 Z Z), trivial⟩ (dg_off' Z Z Z Z Zb)
     ·
      intro w124 D hS115 hd115
      exact Zs (E' := [(47, undef), (37, undef)]) ⟨(dpE hd115 35 Z Z), (dpE hd115 25 Z Z), trivial⟩ (dg_off' Z Z Z Z Zb)
     ·
      intro w125 D hS116 hd116
      exact Zs (E' := [(48, undef), (37, undef)]) ⟨(dpE hd116 36 Z Z), (dpE hd116 25 Z Z), trivial⟩ (dg_off' Z Z Z Z Zb)
     ·
      intro w126 D hS117 hd117
      have hC126 := hC1.no hS117
      refine lw_sub (E' := [(34, (.bool true)), (37, undef), (42, undef), (49, undef), (0, v0p), (1, (.int .i64 a_top)), (5, (.int .i64 k1))]) ⟨(dpE hd117 22 Z Z), (dpE hd117 25 Z Z), (dpE hd117 30 Z Z), (dpE hd117 37 Z Z), Z, Z, Z, trivial⟩ (lw_off' Z Z Z Z Z Z (lw_off Z Z Z Z Z Z (Zo Z Z Z (ow_pickT Z Z Z (Zn (Ze (Zt Z (cw_seq (Zr (Zo Z Z Z (Za Z Z (Zn (Ze (Zy (ew_blockR (Zh (Zh (ew_blockR (ew_brkR (Zh ?_))))))))))))))))))))
      have e24 := hR1 _ (sj hb1).symm
      subst e24
      obtain rfl := sj h
      exact ew_ret (res1 Z (.tmp Z)) ⟨_, Z, ((vbool _)), hC126.bx⟩
   ·
    subst hc2
    refine cw_sub (E' := [(0, v0p), (1, (.int .i64 a_top)), (5, (.int .i64 k1))]) ⟨Z, Z, Z, trivial⟩ (cw_drawQ 38 [PV (RSlice RSpan) M1 a_list, PEq (.int .i64 k1), PA RSpan M1 x1, PA RInt M1 x1.Lo, PEq (.int .i64 x1.Lo), PV (RSlice RSpan) M1 a_list, PEq (.int .i64 k1), PA RSpan M1 x1, PA RInt M1 x1.Hi, PEq (.int .i64 x1.Hi), PEq (.bool false), PEq (.bool true), PEq (.bool true), PEq undef, PEq undef, PEq undef, PEq undef, PEq undef, PEq undef, PEq undef, PEq undef, PEq (.bool true), PEq (.bool true), PEq undef, PEq undef, PEq undef, PEq undef, PEq undef, PEq undef, PEq undef, PEq undef, PEq undef, PEq undef, PEq undef, PEq undef, PEq undef, PEq undef, PEq undef] (by kernel_rfl) Z (by kernel_rfl) ⟨PV.mono _ _ _, Zq, PA.mono _ _ _, PA.mono _ _ _, Zq, PV.mono _ _ _, Zq, PA.mono _ _ _, PA.mono _ _ _, Zq, Zq, Zq, Zq, Zq, Zq, Zq, Zq, Zq, Zq, Zq, Zq, Zq, Zq, Zq, Zq, Zq, Zq, Zq, Zq, Zq, Zq, Zq, Zq, Zq, Zq, Zq, Zq, Zq, trivial⟩ ⟨?_, ?_, ?_, ?_, ?_, ?_, ?_, ?_, ?_, ?_, ?_, ?_, ?_, ?_, ?_, ?_, ?_, ?_, ?_, ?_, ?_, ?_, ?_, ?_, ?_, ?_, ?_, ?_, ?_, ?_, ?_, ?_, ?_, ?_, ?_, ?_, ?_, ?_, trivial⟩ ?_)
    ·
     intro w127 D hS118 hd118
     have hl127 := Le.no M1 hS118
     exact Zs (E' := [(0, v0p)]) ⟨Z, trivial⟩ (Zp Z (Zm Z Z ⟨BX.refl _ _, (VRep.mono (hl1.trans hl127) h0)⟩))
    ·
     intro w128 D hS119 hd119
     exact Zs (E' := [(5, (.int .i64 k1))]) ⟨Z, trivial⟩ (Zp Z (Zm Z Z Zb))
    ·
     intro w129 D hS120 hd120
     have d298 : PV (RSlice RSpan) M1 a_list (D 0) w129 := dpA hd120 0 Z
     generalize hq12 : (D 0) = v37 at d298
     exact Zs (E' := [(12, v37), (13, (.int .i64 k1))]) ⟨(congrArg some hq12), (dpE hd120 1 Z Z), trivial⟩ (Zp Z (Zx (R := RSpan) Z Z Z d298 Tryd.underlying59 (Tryd.sizeOf69 _) hx1 fun p39 hp39 => ⟨BX.refl _ _, ⟨_, Z, hp39⟩⟩))
    ·
     intro w130 D hS121 hd121
     have d300 : PA RSpan M1 x1 (D 2) w130 := dpA hd121 2 Z
     obtain ⟨p40, e25, ha23⟩ := d300
     exact Zs (E' := [(14, (.pointer (some p40)))]) ⟨(congrArg some e25), trivial⟩ (Zp Z (Zf Z Z Tryd.underlying69 Z (Tryd.sizeOf3 _) ⟨BX.refl _ _, ⟨_, Z, (ha23.fld fld_Span_Lo)⟩⟩))
    ·
     intro w131 D hS122 hd122
     have d301 : PA RInt M1 x1.Lo (D 3) w131 := dpA hd122 3 Z
     obtain ⟨p41, e26, ha24⟩ := d301
     refine Zs (E' := [(15, (.pointer (some p41)))]) ⟨(congrArg some e26), trivial⟩ (Zp Z (Zl (R := RInt) Z Z ha24 (Tryd.sizeOf3 _) (Tryd.isAgg3 _) fun v38 hv38 => ?_))
     obtain rfl := Zi hv38
     exact Zb
    ·
     intro w132 D hS123 hd123
     have hl132 := Le.no M1 hS123
     exact Zs (E' := [(0, v0p)]) ⟨Z, trivial⟩ (Zp Z (Zm Z Z ⟨BX.refl _ _, (VRep.mono (hl1.trans hl132) h0)⟩))
    ·
     intro w133 D hS124 hd124
     exact Zs (E' := [(5, (.int .i64 k1))]) ⟨Z, trivial⟩ (Zp Z (Zm Z Z Zb))
    ·
     intro w134 D hS125 hd125
     have d302 : PV (RSlice RSpan) M1 a_list (D 5) w134 := dpA hd125 5 Z
     generalize hq13 : (D 5) = v39 at d302
     exact Zs (E' := [(17, v39), (18, (.int .i64 k1))]) ⟨(congrArg some hq13), (dpE hd125 6 Z Z), trivial⟩ (Zp Z (Zx (R := RSpan) Z Z Z d302 Tryd.underlying59 (Tryd.sizeOf69 _) hx1 fun p42 hp42 => ⟨BX.refl _ _, ⟨_, Z, hp42⟩⟩))
    ·
     intro w135 D hS126 hd126
     have d304 : PA RSpan M1 x1 (D 7) w135 := dpA hd126 7 Z
     obtain ⟨p43, e27, ha25⟩ := d304
     exact Zs (E' := [(19, (.pointer (some p43)))]) ⟨(congrArg some e27), trivial⟩ (Zp Z (Zf Z Z Tryd.underlying69 Z (Tryd.sizeOf3 _) ⟨BX.refl _ _, ⟨_, Z, (ha25.fld fld_Span_Hi)⟩⟩))
    ·
     intro w136 D hS127 hd127
     have d305 : PA RInt M1 x1.Hi (D 8) w136 := dpA hd127 8 Z
     obtain ⟨p44, e28, ha26⟩ := d305
     refine Zs (E' := [(20, (.pointer (some p44)))]) ⟨(congrArg some e28), trivial⟩ (Zp Z (Zl (R := RInt) Z Z ha26 (Tryd.sizeOf3 _) (Tryd.isAgg3 _) fun v40 hv40 => ?_))
     obtain rfl := Zi hv40
     exact Zb
    ·
     intro w137 D hS128 hd128
     have hl137 := Le.no M1 hS128
     have hC137 := hC1.no hS128
     refine Zs (E' := [(16, (.int .i64 x1.Lo)), (21, (.int .i64 x1.Hi))]) ⟨(dpE hd128 4 Z Z), (dpE hd128 9 Z Z), trivial⟩ (Zp Z (Zk Z Z Tryd.call76 (w_spec_l1In (hG.mono (hl1.trans hl137)) hC137.old hx2) fun v41 w138 hv41 => ?_))
     obtain ⟨hv41, hb10⟩ := hv41
     obtain rfl := vbool_eq hv41
     exact ⟨hb10, Z⟩
    ·
     intro w139 D hS129 hd129
     exact Zs (E' := [(22, (.bool false))]) ⟨(dpE hd129 10 Z Z), trivial⟩ (Zp Z (ow_not Z Z Zb))
    ·
     intro w140 D hS130 hd130
     exact Zs (E' := [(23, (.bool true))]) ⟨(dpE hd130 11 Z Z), trivial⟩ (Zp Z (Zm Z Z Zb))
    ·
     intro w141 D hS131 hd131
     exact Zs (E' := [(24, (.bool true)), (0, v0p)]) ⟨(dpE hd131 12 Z Z), Z, trivial⟩ (dg_off Z Z Z Z Zb)
    ·
     intro w142 D hS132 hd132
     exact Zs (E' := [(24, (.bool true)), (5, (.int .i64 k1))]) ⟨(dpE hd132 12 Z Z), Z, trivial⟩ (dg_off Z Z Z Z Zb)
    ·
     intro w143 D hS133 hd133
     exact Zs (E' := [(25, undef), (26, undef), (24, (.bool true))]) ⟨(dpE hd133 13 Z Z), (dpE hd133 14 Z Z), (dpE hd133 12 Z Z), trivial⟩ (dg_off Z Z Z Z Zb)
    ·
     intro w144 D hS134 hd134
     exact Zs (E' := [(27, undef), (24, (.bool true))]) ⟨(dpE hd134 15 Z Z), (dpE hd134 12 Z Z), trivial⟩ (dg_off Z Z Z Z Zb)
    ·
     intro w145 D hS135 hd135
     exact Zs (E' := [(28, undef), (24, (.bool true))]) ⟨(dpE hd135 16 Z Z), (dpE hd135 12 Z Z), trivial⟩ (dg_off Z Z Z Z Zb)
    ·
     intro w146 D hS136 hd136
     exact Zs (E' := [(24, (.bool true)), (1, (.int .i64 a_top))]) ⟨(dpE hd136 12 Z Z), Z, trivial⟩ (dg_off Z Z Z Z Zb)
    ·
     intro w147 D hS137 hd137
     exact Zs (E' := [(29, undef), (30, undef), (24, (.bool true))]) ⟨(dpE hd137 17 Z Z), (dpE hd137 18 Z Z), (dpE hd137 12 Z Z), trivial⟩ (dg_off Z Z Z Z Zb)
    ·
     intro w148 D hS138 hd138
     exact Zs (E' := [(31, undef), (24, (.bool true))]) ⟨(dpE hd138 19 Z Z), (dpE hd138 12 Z Z), trivial⟩ (dg_off Z Z Z Z Zb)
    ·
     intro w149 D hS139 hd139
     exact Zs (E' := [(24, (.bool true)), (32, undef)]) ⟨(dpE hd139 12 Z Z), (dpE hd139 20 Z Z), trivial⟩ (Zp Z (ow_pickT Z Z Z Zb))
    ·
     intro w150 D hS140 hd140
     exact Zs (E' := [(33, (.bool true))]) ⟨(dpE hd140 21 Z Z), trivial⟩ (Zp Z (Zm Z Z Zb))
    ·
     intro w151 D hS141 hd141
     exact Zs (E' := [(34, (.bool true)), (5, (.int .i64 k1))]) ⟨(dpE hd141 22 Z Z), Z, trivial⟩ (dg_off Z Z Z Z Zb)
    ·
     intro w152 D hS142 hd142
     exact Zs (E' := [(35, undef), (34, (.bool true))]) ⟨(dpE hd142 23 Z Z), (dpE hd142 22 Z Z), trivial⟩ (dg_off Z Z Z Z Zb)
    ·
     intro w153 D hS143 hd143
     exact Zs (E' := [(36, undef), (34, (.bool true))]) ⟨(dpE hd143 24 Z Z), (dpE hd143 22 Z Z), trivial⟩ (dg_off Z Z Z Z Zb)
    ·
     intro w154 D hS144 hd144
     exact Zs (E' := [(37, undef), (0, v0p)]) ⟨(dpE hd144 25 Z Z), Z, trivial⟩ (dg_off' Z Z Z Z Zb)
    ·
     intro w155 D hS145 hd145
     exact Zs (E' := [(37, undef), (5, (.int .i64 k1))]) ⟨(dpE hd145 25 Z Z), Z, trivial⟩ (dg_off' Z Z Z Z Zb)
    ·
     intro w156 D hS146 hd146
     exact Zs (E' := [(38, undef), (39, undef), (37, undef)]) ⟨(dpE hd146 26 Z Z), (dpE hd146 27 Z Z), (dpE hd146 25 Z Z), trivial⟩ (dg_off' Z Z Z Z Zb)
    ·
     intro w157 D hS147 hd147
     exact Zs (E' := [(40, undef), (37, undef)]) ⟨(dpE hd147 28 Z Z), (dpE hd147 25 Z Z), trivial⟩ (dg_off' Z Z Z Z Zb)
    ·
     intro w158 D hS148 hd148
     exact Zs (E' := [(41, undef), (37, undef)]) ⟨(dpE hd148 29 Z Z), (dpE hd148 25 Z Z), trivial⟩ (dg_off' Z Z Z Z Zb)
    ·
     intro w159 D hS149 hd149
     exact Zs (E' := [(37, undef), (0, v0p)]) ⟨(dpE hd149 25 Z Z), Z, trivial⟩ (dg_off' Z Z Z Z Zb)
    ·
     intro w160 D hS150 hd150
     exact Zs (E' := [(37, undef), (5, (.int .i64 k1))]) ⟨(dpE hd150 25 Z Z), Z, trivial⟩ (dg_off' Z Z Z Z Zb)
    ·
     intro w161 D hS151 hd151
     exact Zs (E' := [(44, undef), (37, undef)]) ⟨(dpE hd151 32 Z Z), (dpE hd151 25 Z Z), trivial⟩ (dg_off' Z Z Z Z Zb)
    ·
     intro w162 D hS152 hd152
     exact Zs (E' := [(43, undef), (45, undef), (37, undef)]) ⟨(dpE hd152 31 Z Z), (dpE hd152 33 Z Z), (dpE hd152 25 Z Z), trivial⟩ (dg_off' Z Z Z Z Zb)
    ·
     intro w163 D hS153 hd153
     exact Zs (E' := [(46, undef), (37, undef)]) ⟨(dpE hd153 34 Z Z), (dpE hd153 25 Z Z), trivial⟩ (dg_off' Z Z Z Z Zb)
    ·
     intro w164 D hS154 hd154
     exact Zs (E' := [(47, undef), (37, undef)]) ⟨(dpE hd154 35 Z Z), (dpE hd154 25 Z Z), trivial⟩ (dg_off' Z Z Z Z Zb)
    ·
     intro w165 D hS155 hd155
     exact Zs (E' := [(48, undef), (37, undef)]) ⟨(dpE hd155 36 Z Z), (dpE hd155 25 Z Z), trivial⟩ (dg_off' Z Z Z Z Zb)
    ·
     intro w166 D hS156 hd156
     have hC166 := hC1.no hS156
     refine lw_sub (E' := [(34, (.bool true)), (37, undef), (42, undef), (49, undef), (0, v0p), (1, (.int .i64 a_top)), (5, (.int .i64 k1))]) ⟨(dpE hd156 22 Z Z), (dpE hd156 25 Z Z), (dpE hd156 30 Z Z), (dpE hd156 37 Z Z), Z, Z, Z, trivial⟩ (lw_off' Z Z Z Z Z Z (lw_off Z Z Z Z Z Z (Zo Z Z Z (ow_pickT Z Z Z (Zn (Ze (Zt Z (cw_seq (Zr (Zo Z Z Z (Za Z Z (Zn (Ze (Zy (ew_blockR (Zh (Zh (ew_blockR (ew_brkR (Zh ?_))))))))))))))))))))
     have e29 := hR1 _ (sj hb1).symm
     subst e29
     obtain rfl := sj h
     exact ew_ret (res1 Z (.tmp Z)) ⟨_, Z, ((vbool _)), hC166.bx⟩
  ·
   obtain rfl := hbb1.trans hc1
   exact Zu Z (cw_exit (ew_thenX (ew_thenX (ew_blockX (ew_brk k1 hb1 fun a ha => ⟨M1, (ha.sub ⟨Z, Z, Z, trivial⟩), hl1, hC1⟩)))))
 ·
  rintro k2 a w167 hlr2 ⟨M2, hF2, hl167, hC167⟩
  subst hlr2
  refine ew_at (E := [(0, v0p), (1, (.int .i64 a_top)), (5, (.int .i64 k2))]) hF2 (Ze (cw_seq (Zr (Zo Z Z Z (Zm Z Z ?_)))))
  replace h := bind_some h
  obtain ⟨x5, hx5, h⟩ := h
  refine Zo Z Z Z (Zk Z Z Tryd.call76 (w_spec_l1In (hG.mono hl167) hC167.old hx5) fun v43 w168 hv43 => ?_)
  obtain ⟨hv43, hb11⟩ := hv43
  have hl168 := Le.no M2 hb11
  have hC168 := hC167.no hb11
  obtain rfl := vbool_eq hv43
  refine Zo Z Z Z (Zm Z Z ?_)
  replace h := Zc h
  rcases h with ⟨hc6, h⟩ | ⟨hc6, h⟩
  ·
   subst hc6
   refine lw_on Z Z Z Z Z Z (Zm Z Z (lw_on Z Z Z Z Z Z (ow_len Z Z (VRep.mono (hl167.trans hl168) h0) Tryd.underlying59 Z (lw_on Z Z Z Z Z Z (ow_leq Z Z Z fun bb6 hbb6 => Zo Z Z Z (ow_pickT Z Z Z (Zo Z Z Z (Za Z Z (Zn (Ze (Zy ?_)))))))))))
   obtain rfl := sj h
   exact ew_ret (res1 Z (.tmp Z)) ⟨_, Z, ((vbool_of hbb6)), hC168.bx⟩
  ·
   subst hc6
   refine lw_off Z Z Z Z Z Z (lw_off Z Z Z Z Z Z (lw_off Z Z Z Z Z Z (Zo Z Z Z (ow_pickF Z Z Z (Zo Z Z Z (Za Z Z (Zn (Ze (Zy ?_)))))))))
   obtain rfl := sj h
   exact ew_ret (res1 Z (.tmp Z)) ⟨_, Z, ((vbool _)), hC168.bx⟩

theorem w_spec_BoxValid {w : World} {M : Nat → Prop} (hG : ARep (RArr 4 RShape) w M shapes ⟨0, 0, none⟩) (hO : ∀ b, M b → b < w.heap.size) {v0p : Value} {a_b : Box} (h0 : VRep RBox w M a_b v0p) {r : Bool} (h : F.spec_BoxValid a_b = some r) :
  Calls Tryd.prog 12 [v0p].toArray w fun e w' => ∃ v, e = .returned v ∧ VRep RBool w' M r v ∧ BX No w w' := by
 have hC : Cx No w M w M := Cx.start hO (fun _ e => e.elim)
 refine walk (N := 28) Tryd.func12 Z Tryd.ntmps12 Z (cw_seq (Zr (Zo Z Z Z (ow_box (R := RBox) Z Z h0 hC fun p1 w1 hp1 hb1 hl1 hC1 => Zo Z Z Z (Za Z Z (Zn (Ze (cw_seq (cw_seq (Zr (Zo Z Z Z (Za Z Z (Zn (Ze ?_))))))))))))))
 replace h := bind_some h
 obtain ⟨lr1, hlr1, h⟩ := h
 refine cw_for hlr1 (fun s a w' => ∃ (M' : Nat → Prop), Fits 28 [(1, (.pointer (some p1))), (3, (.int .i64 s))] a ∧ Le w1 M w' M' ∧ Cx No w M w' M') ?_ ?_ ?_
 ·
  intro a ha
  exact ⟨M, ha.sub ⟨Z, Z, trivial⟩, Le.refl _ _, hC1⟩
 ·
  rintro k1 a w2 sr1 ⟨M1, hF1, hl2, hC2⟩ hb2 hR1
  refine cw_at (E := [(1, (.pointer (some p1))), (3, (.int .i64 k1))]) hF1 (cw_seq (cw_seq (Zr (Zo Z Z Z (Zm Z Z (Zo Z Z Z (Zf Z Z Tryd.underlying25 Z (Tryd.sizeOf23 _) (Zo Z Z Z (Zl (R := (RSlice (RSlice RSpan))) Z Z (ARep.mono hl2 (hp1.fld fld_Box_Sides)) (Tryd.sizeOf23 _) (Tryd.isAgg23 _) fun v2 hv2 => Zo Z Z Z (ow_len Z Z hv2 Tryd.underlying23 Z (Zo Z Z Z (ow_lss Z Z Z fun bb1 hbb1 => Zn (Ze ?_)))))))))))))
  replace hb2 := Zc hb2
  rcases hb2 with ⟨hc1, hb2⟩ | ⟨hc1, hb2⟩
  ·
   obtain rfl := hbb1.trans hc1
   refine Zt Z (cw_skip (Ze (cw_seq (cw_block (cw_seq ?_)))))
   replace hb2 := Zc hb2
   rcases hb2 with ⟨hc2, hb2⟩ | ⟨hc2, hb2⟩
   ·
    refine cw_sub (E' := [(1, (.pointer (some p1))), (3, (.int .i64 k1))]) ⟨Z, Z, trivial⟩ (cw_drawQ 10 [PEq (.int .i64 k1), PEq (.bool true), PEq (.bool true), PEq undef, PEq undef, PEq undef, PEq undef, PEq undef, PEq undef, PEq undef] (by kernel_rfl) Z (by kernel_rfl) ⟨Zq, Zq, Zq, Zq, Zq, Zq, Zq, Zq, Zq, Zq, trivial⟩ ⟨?_, ?_, ?_, ?_, ?_, ?_, ?_, ?_, ?_, ?_, trivial⟩ ?_)
    ·
     intro w3 D hS1 hd1
     exact Zs (E' := [(3, (.int .i64 k1))]) ⟨Z, trivial⟩ (Zp Z (Zm Z Z Zb))
    ·
     intro w4 D hS2 hd2
     refine Zs (E' := [(11, (.int .i64 k1))]) ⟨(dpE hd2 0 Z Z), trivial⟩ (Zp Z (ow_geq Z Z Z fun bb3 hbb3 => ?_))
     obtain rfl := hbb3.trans hc2
     exact Zb
    ·
     intro w5 D hS3 hd3
     exact Zs (E' := [(12, (.bool true))]) ⟨(dpE hd3 1 Z Z), trivial⟩ (Zp Z (Zm Z Z Zb))
    ·
     intro w6 D hS4 hd4
     exact Zs (E' := [(13, (.bool true)), (1, (.pointer (some p1)))]) ⟨(dpE hd4 2 Z Z), Z, trivial⟩ (dg_off Z Z Z Z Zb)
    ·
     intro w7 D hS5 hd5
     exact Zs (E' := [(14, undef), (13, (.bool true))]) ⟨(dpE hd5 3 Z Z), (dpE hd5 2 Z Z), trivial⟩ (dg_off Z Z Z Z Zb)
    ·
     intro w8 D hS6 hd6
     exact Zs (E' := [(13, (.bool true)), (3, (.int .i64 k1))]) ⟨(dpE hd6 2 Z Z), Z, trivial⟩ (dg_off Z Z Z Z Zb)
    ·
     intro w9 D hS7 hd7
     exact Zs (E' := [(15, undef), (16, undef), (13, (.bool true))]) ⟨(dpE hd7 4 Z Z), (dpE hd7 5 Z Z), (dpE hd7 2 Z Z), trivial⟩ (dg_off Z Z Z Z Zb)
    ·
     intro w10 D hS8 hd8
     exact Zs (E' := [(17, undef), (13, (.bool true))]) ⟨(dpE hd8 6 Z Z), (dpE hd8 2 Z Z), trivial⟩ (dg_off Z Z Z Z Zb)
    ·
     intro w11 D hS9 hd9
     exact Zs (E' := [(13, (.bool true)), (3, (.int .i64 k1))]) ⟨(dpE hd9 2 Z Z), Z, trivial⟩ (dg_off Z Z Z Z Zb)
    ·
     intro w12 D hS10 hd10
     exact Zs (E' := [(19, undef), (13, (.bool true))]) ⟨(dpE hd10 8 Z Z), (dpE hd10 2 Z Z), trivial⟩ (dg_off Z Z Z Z Zb)
    ·
     intro w13 D hS11 hd11
     have hC13 := hC2.no hS11
     refine lw_sub (E' := [(13, (.bool true)), (18, undef), (20, undef), (1, (.pointer (some p1))), (3, (.int .i64 k1))]) ⟨(dpE hd11 2 Z Z), (dpE hd11 7 Z Z), (dpE hd11 9 Z Z), Z, Z, trivial⟩ (lw_off Z Z Z Z Z Z (lw_off Z Z Z Z Z Z (Zo Z Z Z (ow_pickT Z Z Z (Zn (Ze (Zt Z (cw_seq (Zr (Zo Z Z Z (Za Z Z (Zn (Ze (Zy (ew_blockR (Zh (Zh (ew_blockR (ew_brkR (Zh ?_))))))))))))))))))))
     have e1 := hR1 _ (sj hb2).symm
     subst e1
     obtain rfl := sj h
     exact ew_ret (res1 Z (.tmp Z)) ⟨_, Z, ((vbool _)), hC13.bx⟩
   ·
    replace hb2 := bind_some hb2
    obtain ⟨x1, hx1, hb2⟩ := hb2
    replace hb2 := bind_some hb2
    obtain ⟨x2, hx2, hb2⟩ := hb2
    have lz2 := (hl1.trans hl2)
    refine cw_sub (E' := [(1, (.pointer (some p1))), (3, (.int .i64 k1))]) ⟨Z, Z, trivial⟩ (cw_drawQ 10 [PEq (.int .i64 k1), PEq (.bool false), PEq (.bool false), PA (RSlice (RSlice RSpan)) M1 a_b.Sides, PV (RSlice (RSlice RSpan)) M1 a_b.Sides, PEq (.int .i64 k1), PA (RSlice RSpan) M1 x1, PV (RSlice RSpan) M1 x1, PEq (.int .i64 k1), PEq (.int .i64 x2)] (by kernel_rfl) Z (by kernel_rfl) ⟨Zq, Zq, Zq, PA.mono _ _ _, PV.mono _ _ _, Zq, PA.mono _ _ _, PV.mono _ _ _, Zq, Zq, trivial⟩ ⟨?_, ?_, ?_, ?_, ?_, ?_, ?_, ?_, ?_, ?_, trivial⟩ ?_)
    ·
     intro w15 D hS12 hd12
     exact Zs (E' := [(3, (.int .i64 k1))]) ⟨Z, trivial⟩ (Zp Z (Zm Z Z Zb))
    ·
     intro w16 D hS13 hd13
     refine Zs (E' := [(11, (.int .i64 k1))]) ⟨(dpE hd13 0 Z Z), trivial⟩ (Zp Z (ow_geq Z Z Z fun bb4 hbb4 => ?_))
     obtain rfl := hbb4.trans hc2
     exact Zb
    ·
     intro w17 D hS14 hd14
     exact Zs (E' := [(12, (.bool false))]) ⟨(dpE hd14 1 Z Z), trivial⟩ (Zp Z (Zm Z Z Zb))
    ·
     intro w18 D hS15 hd15
     have hl18 := Le.no M1 hS15
     exact Zs (E' := [(13, (.bool false)), (1, (.pointer (some p1)))]) ⟨(dpE hd15 2 Z Z), Z, trivial⟩ (dg_on Z Z Z Z (Zf Z Z Tryd.underlying25 Z (Tryd.sizeOf23 _) ⟨BX.refl _ _, ⟨_, Z, (ARep.mono (hl2.trans hl18) (hp1.fld fld_Box_Sides))⟩⟩))
    ·
     intro w19 D hS16 hd16
     have d29 : PA (RSlice (RSlice RSpan)) M1 a_b.Sides (D 3) w19 := dpA hd16 3 Z
     obtain ⟨p3, e2, ha1⟩ := d29
     exact Zs (E' := [(14, (.pointer (some p3))), (13, (.bool false))]) ⟨(congrArg some e2), (dpE hd16 2 Z Z), trivial⟩ (dg_on Z Z Z Z (Zl (R := (RSlice (RSlice RSpan))) Z Z ha1 (Tryd.sizeOf23 _) (Tryd.isAgg23 _) fun v6 hv6 => ⟨BX.refl _ _, hv6⟩))
    ·
     intro w20 D hS17 hd17
     exact Zs (E' := [(13, (.bool false)), (3, (.int .i64 k1))]) ⟨(dpE hd17 2 Z Z), Z, trivial⟩ (dg_on Z Z Z Z (Zm Z Z Zb))
    ·
     intro w21 D hS18 hd18
     have d32 : PV (RSlice (RSlice RSpan)) M1 a_b.Sides (D 4) w21 := dpA hd18 4 Z
     generalize hq1 : (D 4) = v7 at d32
     exact Zs (E' := [(15, v7), (16, (.int .i64 k1)), (13, (.bool false))]) ⟨(congrArg some hq1), (dpE hd18 5 Z Z), (dpE hd18 2 Z Z), trivial⟩ (dg_on Z Z Z Z (Zx (R := (RSlice RSpan)) Z Z Z d32 Tryd.underlying23 (Tryd.sizeOf59 _) hx1 fun p4 hp4 => ⟨BX.refl _ _, ⟨_, Z, hp4⟩⟩))
    ·
     intro w22 D hS19 hd19
     have d35 : PA (RSlice RSpan) M1 x1 (D 6) w22 := dpA hd19 6 Z
     obtain ⟨p5, e3, ha2⟩ := d35
     exact Zs (E' := [(17, (.pointer (some p5))), (13, (.bool false))]) ⟨(congrArg some e3), (dpE hd19 2 Z Z), trivial⟩ (dg_on Z Z Z Z (Zl (R := (RSlice RSpan)) Z Z ha2 (Tryd.sizeOf59 _) (Tryd.isAgg59 _) fun v8 hv8 => ⟨BX.refl _ _, hv8⟩))
    ·
     intro w23 D hS20 hd20
     exact Zs (E' := [(13, (.bool false)), (3, (.int .i64 k1))]) ⟨(dpE hd20 2 Z Z), Z, trivial⟩ (dg_on Z Z Z Z (Zm Z Z Zb))
    ·
     intro w24 D hS21 hd21
     have hl24 := Le.no M1 hS21
     have hC24 := hC2.no hS21
     refine Zs (E' := [(19, (.int .i64 k1)), (13, (.bool false))]) ⟨(dpE hd21 8 Z Z), (dpE hd21 2 Z Z), trivial⟩ (dg_on Z Z Z Z (Zk Z Z Tryd.call39 (w_spec_FieldTop (hG.mono (lz2.trans hl24)) hC24.old hx2) fun v9 w25 hv9 => ?_))
     obtain ⟨hv9, hb4⟩ := hv9
     obtain rfl := Zi hv9
     exact ⟨hb4, Z⟩
    ·
     intro w26 D hS22 hd22
     have d48 : PV (RSlice RSpan) M1 x1 (D 7) w26 := dpA hd22 7 Z
     have hl26 := Le.no M1 hS22
     have hC26 := hC2.no hS22
     generalize hq2 : (D 7) = v10 at d48
     refine lw_sub (E' := [(13, (.bool false)), (18, v10), (20, (.int .i64 x2)), (1, (.pointer (some p1))), (3, (.int .i64 k1))]) ⟨(dpE hd22 2 Z Z), (congrArg some hq2), (dpE hd22 9 Z Z), Z, Z, trivial⟩ ?_
     replace hb2 := bind_some hb2
     obtain ⟨x3, hx3, hb2⟩ := hb2
     refine lw_on Z Z Z Z Z Z (Zk Z Z Tryd.call38 (w_spec_SpansValid (hG.mono (lz2.trans hl26)) hC26.old d48 hx3) fun v11 w27 hv11 => ?_)
     obtain ⟨hv11, hb5⟩ := hv11
     have hl27 := Le.no M1 hb5
     have hC27 := hC26.no hb5
     obtain rfl := vbool_eq hv11
     refine lw_on Z Z Z Z Z Z (ow_not Z Z (Zo Z Z Z (ow_pickF Z Z Z (Zn (Ze ?_)))))
     replace hb2 := Zc hb2
     rcases hb2 with ⟨hc3, hb2⟩ | ⟨hc3, hb2⟩
     ·
      subst hc3
      refine Zu Z (cw_skip (ew_blockN (Ze (Zr (Zo Z Z Z (Zm Z Z (Zo Z Z Z (ow_add Z Z Z (Zo Z Z Z (Za Z Z (Zn ?_)))))))))))
      have lz3 := ((hl2.trans hl26).trans hl27)
      exact ew_nxt (W (k1 + 1)) hb2 fun a ha => ⟨M1, (ha.sub ⟨Z, Z, trivial⟩), lz3, hC27⟩
     ·
      subst hc3
      refine Zt Z (cw_seq (Zr (Zo Z Z Z (Za Z Z (Zn (Ze (Zy (ew_blockR (Zh (Zh (ew_blockR (ew_brkR (Zh ?_)))))))))))))
      have e4 := hR1 _ (sj hb2).symm
      subst e4
      obtain rfl := sj h
      exact ew_ret (res1 Z (.tmp Z)) ⟨_, Z, ((vbool _)), hC27.bx⟩
  ·
   obtain rfl := hbb1.trans hc1
   exact Zu Z (cw_exit (ew_thenX (ew_thenX (ew_blockX (ew_brk k1 hb2 fun a ha => ⟨M1, (ha.sub ⟨Z, Z, trivial⟩), hl2, hC2⟩)))))
 ·
  rintro k2 a w28 hlr2 ⟨M2, hF2, hl28, hC28⟩
  subst hlr2
  refine ew_at (E := [(1, (.pointer (some p1))), (3, (.int .i64 k2))]) hF2 (Ze (cw_seq (Zr (Zo Z Z Z (Zf Z Z Tryd.underlying25 Z (Tryd.sizeOf23 _) (Zo Z Z Z (Zl (R := (RSlice (RSlice RSpan))) Z Z (ARep.mono hl28 (hp1.fld fld_Box_Sides)) (Tryd.sizeOf23 _) (Tryd.isAgg23 _) fun v13 hv13 => Zo Z Z Z (ow_len Z Z hv13 Tryd.underlying23 Z (Zo Z Z Z (ow_eqlI Z Z Z fun bb5 hbb5 => Zo Z Z Z (Za Z Z (Zn (Ze (Zy ?_))))))))))))))
  obtain rfl := sj h
  exact ew_ret (res1 Z (.tmp Z)) ⟨_, Z, ((vbool_of hbb5)), hC28.bx⟩

theorem w_spec_l1OwnRowsSpan {w : World} {M : Nat → Prop} (_hG : ARep (RArr 4 RShape) w M shapes ⟨0, 0, none⟩) (hO : ∀ b, M b → b < w.heap.size) {v0p : Value} {a_list : List (List Span)} (h0 : VRep (RSlice (RSlice RSpan)) w M a_list v0p) {r : (List (List Span))} (h : F.spec_l1OwnRowsSpan a_list = some r) :
  Calls Tryd.prog 71 [v0p].toArray w fun e w' => ∃ v, e = .returned v ∧ VRep (RSlice (RSlice RSpan)) w' M r v ∧ BX No w w' := by
 obtain ⟨i59, hi59, hz59, hs59, hy59⟩ := info59
 obtain ⟨i69, hi69, hz69, hs69, hy69⟩ := info69
 have hC : Cx No w M w M := Cx.start hO (fun _ e => e.elim)
 clear _hG
 refine walk (N := 22) Tryd.func71 Z Tryd.ntmps71 Z (cw_seq (Zr (Zo Z Z Z (Za Z Z (Zn (Ze (cw_seq (Zr (Zo Z Z Z (ow_buildSlice0 (R := (RSlice RSpan)) (e := 59) Z (by kernel_rfl) hC fun p1 w1 M1 hr1 hb1 hl1 hC1 hM1 hat1 => Zo Z Z Z (Za Z Z (Zn (Ze (cw_seq (cw_seq (Zr (Zo Z Z Z (Za Z Z (Zn (Ze ?_))))))))))))))))))))
 replace h := bind_some h
 obtain ⟨lr1, hlr1, h⟩ := h
 refine cw_for hlr1 (fun s a w' => ∃ (M' : Nat → Prop) (v0c : Value), Fits 22 [(0, v0p), (3, v0c), (4, (.int .i64 s.2))] a ∧ Le w1 M1 w' M' ∧ Cx No w M w' M' ∧ OwnRow (RSlice RSpan) w.heap.size 59 w' M' s.1 v0c) ?_ ?_ ?_
 ·
  intro a ha
  exact ⟨M1, (.slice (some p1) 0 0), ha.sub ⟨Z, Z, Z, trivial⟩, Le.refl _ _, hC1, hr1⟩
 ·
  rintro ⟨y1, k1⟩ a w2 sr1 ⟨M2, v1, hF1, hl2, hC2, hw1⟩ hb2 hR1
  refine cw_at (E := [(0, v0p), (3, v1), (4, (.int .i64 k1))]) hF1 (cw_seq (cw_seq (Zr (Zo Z Z Z (Zm Z Z (Zo Z Z Z (Zm Z Z (Zo Z Z Z (ow_len Z Z (VRep.mono (hl1.trans hl2) h0) Tryd.underlying23 Z (Zo Z Z Z (ow_lss Z Z Z fun bb1 hbb1 => Zn (Ze ?_))))))))))))
  replace hb2 := Zc hb2
  rcases hb2 with ⟨hc1, hb2⟩ | ⟨hc1, hb2⟩
  ·
   obtain rfl := hbb1.trans hc1
   refine Zt Z (cw_skip (Ze (cw_seq (cw_block (Zr (Zo Z Z Z (Zm Z Z (Zo Z Z Z (ow_buildSlice0 (R := RSpan) (e := 69) Z (by kernel_rfl) hC2 fun p2 w3 M3 hr2 hb3 hl3 hC3 hM2 hat2 => ?_)))))))))
   have hr3 := hw1.go hb3 (fun _ _ e => e) hl3 hM2
   refine Zo Z Z Z (Zm Z Z (Zo Z Z Z (Zm Z Z ?_)))
   replace hb2 := bind_some hb2
   obtain ⟨x1, hx1, hb2⟩ := hb2
   have lz1 := ((hl1.trans hl2).trans hl3)
   refine Zo Z Z Z (Zx (R := (RSlice RSpan)) Z Z Z (VRep.mono lz1 h0) Tryd.underlying23 (Tryd.sizeOf59 _) hx1 fun p3 hp3 => Zo Z Z Z (Zl (R := (RSlice RSpan)) Z Z hp3 (Tryd.sizeOf59 _) (Tryd.isAgg59 _) fun v3 hv3 => ?_))
   replace hb2 := bind_some hb2
   obtain ⟨z1, hz1, hb2⟩ := hb2
   refine Zo Z Z Z (ow_appendCopy (R := RSpan) Z Z Z Z Tryd.underlying59 hi69 hz69 hs69 hy69 Z Z Z Z hv3 hz1 hC3 fun v4 w4 hw2 hb4 hl4 hC4 => ?_)
   have hr4 := hr3.no hb4
   obtain ⟨A1, c1, rfl, -⟩ := vslice_shape hw2
   refine Zo Z Z Z (ow_buildSlice (R := (RSlice RSpan)) (xs := [z1]) (cs := #[(.slice A1 z1.length c1)]) (e := 59) Z Z (by kernel_rfl) Z Z ⟨_, _, Z, hw2.cells, Z⟩ hC4 fun p4 w5 hw3 hb5 hl5 hC5 => ?_)
   have hr6 := hr4.no hb5
   replace hb2 := bind_some hb2
   obtain ⟨z2, hz2, hb2⟩ := hb2
   refine Zo Z Z Z (ow_append (R := (RSlice RSpan)) Z Z Z Z Tryd.underlying23 hi59 hz59 hs59 hy59 Z Z Z Z hr6 hw3 hz2 hC5 fun v5 w6 M4 hr8 hb6 hl6 hC6 hM3 hat3 => Zo Z Z Z (Za Z Z (Zn (ew_blockN (Ze (Zr (Zo Z Z Z (Zm Z Z (Zo Z Z Z (ow_add Z Z Z (Zo Z Z Z (Za Z Z (Zn ?_)))))))))))))
   have lz2 := ((((hl2.trans hl3).trans hl4).trans hl5).trans hl6)
   exact ew_nxt (z2, (W (k1 + 1))) hb2 fun a ha => ⟨M4, v5, (ha.sub ⟨Z, Z, Z, trivial⟩), lz2, hC6, hr8⟩
  ·
   obtain rfl := hbb1.trans hc1
   exact Zu Z (cw_exit (ew_thenX (ew_thenX (ew_blockX (ew_brk (y1, k1) hb2 fun a ha => ⟨M2, v1, (ha.sub ⟨Z, Z, Z, trivial⟩), hl2, hC2, hw1⟩)))))
 ·
  rintro ⟨y2, k2⟩ a w7 hlr2 ⟨M5, v6, hF2, hl7, hC7, hw4⟩
  subst hlr2
  refine ew_at (E := [(0, v0p), (3, v6), (4, (.int .i64 k2))]) hF2 (Ze (cw_seq (Zr (Zo Z Z Z (Zm Z Z (Zo Z Z Z (Za Z Z (Zn (Ze (Zy ?_))))))))))
  obtain rfl := sj h
  exact ew_ret (res1 Z (.tmp Z)) ⟨_, Z, (hw4.freezeBack hC7 hO), hC7.bx⟩

theorem wo_spec_l1OwnRowsSpan {w : World} {M : Nat → Prop} (_hG : ARep (RArr 4 RShape) w M shapes ⟨0, 0, none⟩) (hO : ∀ b, M b → b < w.heap.size) {v0p : Value} {a_list : List (List Span)} (h0 : VRep (RSlice (RSlice RSpan)) w M a_list v0p) {r : (List (List Span))} (h : F.spec_l1OwnRowsSpan a_list = some r) :
  Calls Tryd.prog 71 [v0p].toArray w fun e w' => ∃ v, e = .returned v ∧ (∃ M', OwnRow (RSlice RSpan) w.heap.size 59 w' M' r v ∧ Cx No w M w' M') ∧ BX No w w' := by
 obtain ⟨i59, hi59, hz59, hs59, hy59⟩ := info59
 obtain ⟨i69, hi69, hz69, hs69, hy69⟩ := info69
 have hC : Cx No w M w M := Cx.start hO (fun _ e => e.elim)
 clear _hG
 refine walk (N := 22) Tryd.func71 Z Tryd.ntmps71 Z (cw_seq (Zr (Zo Z Z Z (Za Z Z (Zn (Ze (cw_seq (Zr (Zo Z Z Z (ow_buildSlice0 (R := (RSlice RSpan)) (e := 59) Z (by kernel_rfl) hC fun p1 w1 M1 hr1 hb1 hl1 hC1 hM1 hat1 => Zo Z Z Z (Za Z Z (Zn (Ze (cw_seq (cw_seq (Zr (Zo Z Z Z (Za Z Z (Zn (Ze ?_))))))))))))))))))))
 replace h := bind_some h
 obtain ⟨lr1, hlr1, h⟩ := h
 refine cw_for hlr1 (fun s a w' => ∃ (M' : Nat → Prop) (v0c : Value), Fits 22 [(0, v0p), (3, v0c), (4, (.int .i64 s.2))] a ∧ Le w1 M1 w' M' ∧ Cx No w M w' M' ∧ OwnRow (RSlice RSpan) w.heap.size 59 w' M' s.1 v0c) ?_ ?_ ?_
 ·
  intro a ha
  exact ⟨M1, (.slice (some p1) 0 0), ha.sub ⟨Z, Z, Z, trivial⟩, Le.refl _ _, hC1, hr1⟩
 ·
  rintro ⟨y1, k1⟩ a w2 sr1 ⟨M2, v1, hF1, hl2, hC2, hw1⟩ hb2 hR1
  refine cw_at (E := [(0, v0p), (3, v1), (4, (.int .i64 k1))]) hF1 (cw_seq (cw_seq (Zr (Zo Z Z Z (Zm Z Z (Zo Z Z Z (Zm Z Z (Zo Z Z Z (ow_len Z Z (VRep.mono (hl1.trans hl2) h0) Tryd.underlying23 Z (Zo Z Z Z (ow_lss Z Z Z fun bb1 hbb1 => Zn (Ze ?_))))))))))))
  replace hb2 := Zc hb2
  rcases hb2 with ⟨hc1, hb2⟩ | ⟨hc1, hb2⟩
  ·
   obtain rfl := hbb1.trans hc1
   refine Zt Z (cw_skip (Ze (cw_seq (cw_block (Zr (Zo Z Z Z (Zm Z Z (Zo Z Z Z (ow_buildSlice0 (R := RSpan) (e := 69) Z (by kernel_rfl) hC2 fun p2 w3 M3 hr2 hb3 hl3 hC3 hM2 hat2 => ?_)))))))))
   have hr3 := hw1.go hb3 (fun _ _ e => e) hl3 hM2
   refine Zo Z Z Z (Zm Z Z (Zo Z Z Z (Zm Z Z ?_)))
   replace hb2 := bind_some hb2
   obtain ⟨x1, hx1, hb2⟩ := hb2
   have lz1 := ((hl1.trans hl2).trans hl3)
   refine Zo Z Z Z (Zx (R := (RSlice RSpan)) Z Z Z (VRep.mono lz1 h0) Tryd.underlying23 (Tryd.sizeOf59 _) hx1 fun p3 hp3 => Zo Z Z Z (Zl (R := (RSlice RSpan)) Z Z hp3 (Tryd.sizeOf59 _) (Tryd.isAgg59 _) fun v3 hv3 => ?_))
   replace hb2 := bind_some hb2
   obtain ⟨z1, hz1, hb2⟩ := hb2
   refine Zo Z Z Z (ow_appendCopy (R := RSpan) Z Z Z Z Tryd.underlying59 hi69 hz69 hs69 hy69 Z Z Z Z hv3 hz1 hC3 fun v4 w4 hw2 hb4 hl4 hC4 => ?_)
   have hr4 := hr3.no hb4
   obtain ⟨A1, c1, rfl, -⟩ := vslice_shape hw2
   refine Zo Z Z Z (ow_buildSlice (R := (RSlice RSpan)) (xs := [z1]) (cs := #[(.slice A1 z1.length c1)]) (e := 59) Z Z (by kernel_rfl) Z Z ⟨_, _, Z, hw2.cells, Z⟩ hC4 fun p4 w5 hw3 hb5 hl5 hC5 => ?_)
   have hr6 := hr4.no hb5
   replace hb2 := bind_some hb2
   obtain ⟨z2, hz2, hb2⟩ := hb2
   refine Zo Z Z Z (ow_append (R := (RSlice RSpan)) Z Z Z Z Tryd.underlying23 hi59 hz59 hs59 hy59 Z Z Z Z hr6 hw3 hz2 hC5 fun v5 w6 M4 hr8 hb6 hl6 hC6 hM3 hat3 => Zo Z Z Z (Za Z Z (Zn (ew_blockN (Ze (Zr (Zo Z Z Z (Zm Z Z (Zo Z Z Z (ow_add Z Z Z (Zo Z Z Z (Za Z Z (Zn ?_)))))))))))))
   have lz2 := ((((hl2.trans hl3).trans hl4).trans hl5).trans hl6)
   exact ew_nxt (z2, (W (k1 + 1))) hb2 fun a ha => ⟨M4, v5, (ha.sub ⟨Z, Z, Z, trivial⟩), lz2, hC6, hr8⟩
  ·
   obtain rfl := hbb1.trans hc1
   exact Zu Z (cw_exit (ew_thenX (ew_thenX (ew_blockX (ew_brk (y1, k1) hb2 fun a ha => ⟨M2, v1, (ha.sub ⟨Z, Z, Z, trivial⟩), hl2, hC2, hw1⟩)))))
 ·
  rintro ⟨y2, k2⟩ a w7 hlr2 ⟨M5, v6, hF2, hl7, hC7, hw4⟩
  subst hlr2
  refine ew_at (E := [(0, v0p), (3, v6), (4, (.int .i64 k2))]) hF2 (Ze (cw_seq (Zr (Zo Z Z Z (Zm Z Z (Zo Z Z Z (Za Z Z (Zn (Ze (Zy ?_))))))))))
  obtain rfl := sj h
  exact ew_ret (res1 Z (.tmp Z)) ⟨_, Z, ⟨M5, hw4, hC7⟩, hC7.bx⟩

theorem w_spec_l1OwnBox {w : World} {M : Nat → Prop} (hG : ARep (RArr 4 RShape) w M shapes ⟨0, 0, none⟩) (hO : ∀ b, M b → b < w.heap.size) {v0p : Value} {a_x : Box} (h0 : VRep RBox w M a_x v0p) {r : Box} (h : F.spec_l1OwnBox a_x = some r) :
  Calls Tryd.prog 36 [v0p].toArray w fun e w' => ∃ v, e = .returned v ∧ VRep RBox w' M r v ∧ BX No w w' := by
 have hC : Cx No w M w M := Cx.start hO (fun _ e => e.elim)
 refine walk (N := 10) Tryd.func36 Z Tryd.ntmps36 Z (cw_seq (Zr (Zo Z Z Z (ow_box (R := RBox) Z Z h0 hC fun p1 w1 hp1 hb1 hl1 hC1 => Zo Z Z Z (ow_alloc Z (Tryd.zeroValue25 _) hC1 fun g1 w2 hg1 hg2 ho1 hb2 hl2 hC2 => ?_)))))
 have hm1 : (Add g1 M) g1 := .inl Z
 refine Zn (Ze (cw_seq (Zr (Zo Z Z Z (Zl (R := RBox) Z Z (ARep.mono hl2 hp1) (Tryd.sizeOf25 _) (Tryd.isAgg25 _) fun v1 hv1 => Zo Z Z Z (ow_alloc Z (Tryd.zeroValue25 _) hC2 fun g2 w3 hg3 hg4 ho2 hb3 hl3 hC3 => ?_))))))
 have hn1 := Nat.ne_of_lt (Nat.lt_of_lt_of_le ho1.lt hg3)
 have ho3 := ho1.no hb3
 have hm2 : (Add g2 (Add g1 M)) g1 := .inr hm1
 have hm3 : (Add g2 (Add g1 M)) g2 := .inl Z
 obtain ⟨A1, c1, rfl, hw1⟩ := open_Box hv1
 refine lw_op0 Z Z (ow_store (X := No) (us := [(.slice A1 a_x.Sides.length c1)]) (cs' := #[(.slice A1 a_x.Sides.length c1)]) Z Z Z Z ho2 (Tryd.sizeOf25 _) Z Z Z Z hm3 (.inl hg4) Z hC3 fun w4 ho4 hb4 hl4 hC4 => ?_)
 have ho5 := ho3.go hb4 (fun e => hn1 e)
 refine Zn (Ze (cw_seq (Zr (Zo Z Z Z (Zf Z Z Tryd.underlying25 Z (Tryd.sizeOf23 _) ?_)))))
 have lz1 := ((hl2.trans hl3).trans hl4)
 refine Zo Z Z Z (Zl (R := (RSlice (RSlice RSpan))) Z Z (ARep.mono lz1 (hp1.fld fld_Box_Sides)) (Tryd.sizeOf23 _) (Tryd.isAgg23 _) fun v2 hv2 => ?_)
 replace h := bind_some h
 obtain ⟨x1, hx1, h⟩ := h
 have lz2 := (((hl1.trans hl2).trans hl3).trans hl4)
 refine Zo Z Z Z (Zk Z Z Tryd.call71 (w_spec_l1OwnRowsSpan (hG.mono lz2) hC4.old hv2 hx1) fun v3 w5 hv3 => ?_)
 obtain ⟨hv3, hb5⟩ := hv3
 have hC5 := hC4.no hb5
 have ho6 := ho5.no hb5
 have ho7 := ho4.no hb5
 refine Zo Z Z Z (Zf Z Z Tryd.underlying25 Z (Tryd.sizeOf23 _) ?_)
 obtain ⟨A2, c2, rfl, -⟩ := vslice_shape hv3
 refine lw_op0 Z Z (ow_store (X := No) (us := [(.slice A2 x1.length c2)]) (cs' := #[(.slice A2 x1.length c2)]) Z Z Z Z ho7 (Tryd.sizeOf23 _) Z Z Z Z hm3 (.inl hg4) Z hC5 fun w6 ho8 hb6 hl6 hC6 => ?_)
 have ho9 := ho6.go hb6 (fun e => hn1 e)
 refine Zn (Ze (cw_seq (Zr (Zo Z Z Z (ow_loadOwnA Z Z Z ho8 (Tryd.isAgg25 _) (Tryd.sizeOf25 _) Z (lw_op0 Z Z (ow_store (X := No) (us := [(.slice A2 x1.length c2)]) (cs' := #[(.slice A2 x1.length c2)]) Z Z Z Z ho9 (Tryd.sizeOf25 _) Z Z Z Z hm2 (.inl hg2) Z hC6 fun w7 ho10 hb7 hl7 hC7 => Zn (Ze (Zy ?_)))))))))
 have hw3 : VRep RBox w7 (Add g2 (Add g1 M)) ({ Sides := x1 } : Box) (.agg #[(.slice A2 x1.length c2)]) := shut_Box (VRep.mono (hl6.trans hl7) hv3)
 obtain rfl := sj h
 exact ew_ret (res1 Z (.cell Z (own_loadVarA ho10 (Tryd.isAgg25 _) (Tryd.sizeOf25 _) Z))) ⟨_, Z, (hw3.mono hC7.back), hC7.bx⟩

theorem w_spec_l1OwnBoxList {w : World} {M : Nat → Prop} (hG : ARep (RArr 4 RShape) w M shapes ⟨0, 0, none⟩) (hO : ∀ b, M b → b < w.heap.size) {v0p : Value} {a_list : List Box} (h0 : VRep (RSlice RBox) w M a_list v0p) {r : (List Box)} (h : F.spec_l1OwnBoxList a_list = some r) :
  Calls Tryd.prog 51 [v0p].toArray w fun e w' => ∃ v, e = .returned v ∧ VRep (RSlice RBox) w' M r v ∧ BX No w w' := by
 obtain ⟨i25, hi25, hz25, hs25, hy25⟩ := info25
 have hC : Cx No w M w M := Cx.start hO (fun _ e => e.elim)
 refine walk (N := 21) Tryd.func51 Z Tryd.ntmps51 Z (cw_seq (Zr (Zo Z Z Z (Za Z Z (Zn (Ze (cw_seq (Zr (Zo Z Z Z (ow_buildSlice0 (R := RBox) (e := 25) Z (by kernel_rfl) hC fun p1 w1 M1 hr1 hb1 hl1 hC1 hM1 hat1 => Zo Z Z Z (Za Z Z (Zn (Ze (cw_seq (cw_seq (Zr (Zo Z Z Z (Za Z Z (Zn (Ze ?_))))))))))))))))))))
 replace h := bind_some h
 obtain ⟨lr1, hlr1, h⟩ := h
 refine cw_for hlr1 (fun s a w' => ∃ (M' : Nat → Prop) (v0c : Value), Fits 21 [(0, v0p), (3, v0c), (4, (.int .i64 s.2))] a ∧ Le w1 M1 w' M' ∧ Cx No w M w' M' ∧ OwnRow RBox w.heap.size 25 w' M' s.1 v0c) ?_ ?_ ?_
 ·
  intro a ha
  exact ⟨M1, (.slice (some p1) 0 0), ha.sub ⟨Z, Z, Z, trivial⟩, Le.refl _ _, hC1, hr1⟩
 ·
  rintro ⟨y1, k1⟩ a w2 sr1 ⟨M2, v1, hF1, hl2, hC2, hw1⟩ hb2 hR1
  refine cw_at (E := [(0, v0p), (3, v1), (4, (.int .i64 k1))]) hF1 (cw_seq (cw_seq (Zr (Zo Z Z Z (Zm Z Z (Zo Z Z Z (Zm Z Z (Zo Z Z Z (ow_len Z Z (VRep.mono (hl1.trans hl2) h0) Tryd.underlying28 Z (Zo Z Z Z (ow_lss Z Z Z fun bb1 hbb1 => Zn (Ze ?_))))))))))))
  replace hb2 := Zc hb2
  rcases hb2 with ⟨hc1, hb2⟩ | ⟨hc1, hb2⟩
  ·
   obtain rfl := hbb1.trans hc1
   refine Zt Z (cw_skip (Ze (cw_seq (cw_block (Zr (Zo Z Z Z (Zm Z Z (Zo Z Z Z (Zm Z Z (Zo Z Z Z (Zm Z Z ?_)))))))))))
   replace hb2 := bind_some hb2
   obtain ⟨x1, hx1, hb2⟩ := hb2
   refine Zo Z Z Z (Zx (R := RBox) Z Z Z (VRep.mono (hl1.trans hl2) h0) Tryd.underlying28 (Tryd.sizeOf25 _) hx1 fun p2 hp2 => Zo Z Z Z (Zl (R := RBox) Z Z hp2 (Tryd.sizeOf25 _) (Tryd.isAgg25 _) fun v3 hv3 => ?_))
   replace hb2 := bind_some hb2
   obtain ⟨x2, hx2, hb2⟩ := hb2
   refine Zo Z Z Z (Zk Z Z Tryd.call36 (w_spec_l1OwnBox (hG.mono (hl1.trans hl2)) hC2.old hv3 hx2) fun v4 w3 hv4 => ?_)
   obtain ⟨hv4, hb3⟩ := hv4
   have hl3 := Le.no M2 hb3
   have hC3 := hC2.no hb3
   have hr2 := hw1.no hb3
   obtain ⟨A1, c1, rfl, hw2⟩ := open_Box hv4
   refine Zo Z Z Z (ow_buildSlice (R := RBox) (xs := [x2]) (cs := #[(.slice A1 x2.Sides.length c1)]) (e := 25) Z Z (by kernel_rfl) Z Z ⟨_, _, Z, hv4.cells, Z⟩ hC3 fun p3 w4 hw3 hb4 hl4 hC4 => ?_)
   have hr3 := hr2.no hb4
   replace hb2 := bind_some hb2
   obtain ⟨z1, hz1, hb2⟩ := hb2
   refine Zo Z Z Z (ow_append (R := RBox) Z Z Z Z Tryd.underlying28 hi25 hz25 hs25 hy25 Z Z Z Z hr3 hw3 hz1 hC4 fun v5 w5 M3 hr4 hb5 hl5 hC5 hM2 hat2 => Zo Z Z Z (Za Z Z (Zn (ew_blockN (Ze (Zr (Zo Z Z Z (Zm Z Z (Zo Z Z Z (ow_add Z Z Z (Zo Z Z Z (Za Z Z (Zn ?_)))))))))))))
   have lz1 := (((hl2.trans hl3).trans hl4).trans hl5)
   exact ew_nxt (z1, (W (k1 + 1))) hb2 fun a ha => ⟨M3, v5, (ha.sub ⟨Z, Z, Z, trivial⟩), lz1, hC5, hr4⟩
  ·
   obtain rfl := hbb1.trans hc1
   exact Zu Z (cw_exit (ew_thenX (ew_thenX (ew_blockX (ew_brk (y1, k1) hb2 fun a ha => ⟨M2, v1, (ha.sub ⟨Z, Z, Z, trivial⟩), hl2, hC2, hw1⟩)))))
 ·
  rintro ⟨y2, k2⟩ a w6 hlr2 ⟨M4, v6, hF2, hl6, hC6, hw4⟩
  subst hlr2
  refine ew_at (E := [(0, v0p), (3, v6), (4, (.int .i64 k2))]) hF2 (Ze (cw_seq (Zr (Zo Z Z Z (Zm Z Z (Zo Z Z Z (Za Z Z (Zn (Ze (Zy ?_))))))))))
  obtain rfl := sj h
  exact ew_ret (res1 Z (.tmp Z)) ⟨_, Z, (hw4.freezeBack hC6 hO), hC6.bx⟩

theorem w_spec_RegionValid {w : World} {M : Nat → Prop} (hG : ARep (RArr 4 RShape) w M shapes ⟨0, 0, none⟩) (hO : ∀ b, M b → b < w.heap.size) {v0p : Value} {a_list : List Box} (h0 : VRep (RSlice RBox) w M a_list v0p) {r : Bool} (h : F.spec_RegionValid a_list = some r) :
  Calls Tryd.prog 52 [v0p].toArray w fun e w' => ∃ v, e = .returned v ∧ VRep RBool w' M r v ∧ BX No w w' := by
 have hC : Cx No w M w M := Cx.start hO (fun _ e => e.elim)
 refine walk (N := 19) Tryd.func52 Z Tryd.ntmps52 Z (cw_seq (Zr (Zo Z Z Z (Za Z Z (Zn (Ze (cw_seq (cw_seq (Zr (Zo Z Z Z (Za Z Z (Zn (Ze ?_)))))))))))))
 replace h := bind_some h
 obtain ⟨lr1, hlr1, h⟩ := h
 refine cw_for hlr1 (fun s a w' => ∃ (M' : Nat → Prop), Fits 19 [(0, v0p), (3, (.int .i64 s))] a ∧ Le w M w' M' ∧ Cx No w M w' M') ?_ ?_ ?_
 ·
  intro a ha
  exact ⟨M, ha.sub ⟨Z, Z, trivial⟩, Le.refl _ _, hC⟩
 ·
  rintro k1 a w1 sr1 ⟨M1, hF1, hl1, hC1⟩ hb1 hR1
  refine cw_at (E := [(0, v0p), (3, (.int .i64 k1))]) hF1 (cw_seq (cw_seq (Zr (Zo Z Z Z (Zm Z Z (Zo Z Z Z (Zm Z Z (Zo Z Z Z (ow_len Z Z (VRep.mono hl1 h0) Tryd.underlying28 Z (Zo Z Z Z (ow_lss Z Z Z fun bb1 hbb1 => Zn (Ze ?_))))))))))))
  replace hb1 := Zc hb1
  rcases hb1 with ⟨hc1, hb1⟩ | ⟨hc1, hb1⟩
  ·
   obtain rfl := hbb1.trans hc1
   refine Zt Z (cw_skip (Ze (cw_seq (cw_block (cw_seq (Zr (Zo Z Z Z (Zm Z Z (Zo Z Z Z (Zm Z Z ?_))))))))))
   replace hb1 := bind_some hb1
   obtain ⟨x1, hx1, hb1⟩ := hb1
   refine Zo Z Z Z (Zx (R := RBox) Z Z Z (VRep.mono hl1 h0) Tryd.underlying28 (Tryd.sizeOf25 _) hx1 fun p1 hp1 => Zo Z Z Z (Zl (R := RBox) Z Z hp1 (Tryd.sizeOf25 _) (Tryd.isAgg25 _) fun v2 hv2 => ?_))
   replace hb1 := bind_some hb1
   obtain ⟨x2, hx2, hb1⟩ := hb1
   refine Zo Z Z Z (Zk Z Z Tryd.call12 (w_spec_BoxValid (hG.mono hl1) hC1.old hv2 hx2) fun v3 w2 hv3 => ?_)
   obtain ⟨hv3, hb2⟩ := hv3
   have hl2 := Le.no M1 hb2
   have hC2 := hC1.no hb2
   obtain rfl := vbool_eq hv3
   refine Zo Z Z Z (ow_not Z Z (Zn (Ze ?_)))
   replace hb1 := Zc hb1
   rcases hb1 with ⟨hc2, hb1⟩ | ⟨hc2, hb1⟩
   ·
    subst hc2
    exact Zu Z (cw_skip (ew_blockN (Ze (Zr (Zo Z Z Z (Zm Z Z (Zo Z Z Z (ow_add Z Z Z (Zo Z Z Z (Za Z Z (Zn (ew_nxt (W (k1 + 1)) hb1 fun a ha => ⟨M1, (ha.sub ⟨Z, Z, trivial⟩), (hl1.trans hl2), hC2⟩))))))))))))
   ·
    subst hc2
    refine Zt Z (cw_seq (Zr (Zo Z Z Z (Za Z Z (Zn (Ze (Zy (ew_blockR (Zh (Zh (ew_blockR (ew_brkR (Zh ?_)))))))))))))
    have e1 := hR1 _ (sj hb1).symm
    subst e1
    obtain rfl := sj h
    exact ew_ret (res1 Z (.tmp Z)) ⟨_, Z, ((vbool _)), hC2.bx⟩
  ·
   obtain rfl := hbb1.trans hc1
   exact Zu Z (cw_exit (ew_thenX (ew_thenX (ew_blockX (ew_brk k1 hb1 fun a ha => ⟨M1, (ha.sub ⟨Z, Z, trivial⟩), hl1, hC1⟩)))))
 ·
  rintro k2 a w3 hlr2 ⟨M2, hF2, hl3, hC3⟩
  subst hlr2
  refine ew_at (E := [(0, v0p), (3, (.int .i64 k2))]) hF2 (Ze (cw_seq (Zr (Zo Z Z Z (Zm Z Z (Zo Z Z Z (ow_len Z Z (VRep.mono hl3 h0) Tryd.underlying28 Z (Zo Z Z Z (ow_leq Z Z Z fun bb2 hbb2 => Zo Z Z Z (Za Z Z (Zn (Ze (Zy ?_)))))))))))))
  obtain rfl := sj h
  exact ew_ret (res1 Z (.tmp Z)) ⟨_, Z, ((vbool_of hbb2)), hC3.bx⟩

theorem w_spec_l10Empty {w : World} {M : Nat → Prop} (_hG : ARep (RArr 4 RShape) w M shapes ⟨0, 0, none⟩) (hO : ∀ b, M b → b < w.heap.size) {v0p : Value} {a_b : Box} (h0 : VRep RBox w M a_b v0p) {r : Bool} (h : F.spec_l10Empty a_b = some r) :
  Calls Tryd.prog 72 [v0p].toArray w fun e w' => ∃ v, e = .returned v ∧ VRep RBool w' M r v ∧ BX No w w' := by
 have hC : Cx No w M w M := Cx.start hO (fun _ e => e.elim)
 clear _hG
 refine walk (N := 18) Tryd.func72 Z Tryd.ntmps72 Z (cw_seq (Zr (Zo Z Z Z (ow_box (R := RBox) Z Z h0 hC fun p1 w1 hp1 hb1 hl1 hC1 => Zo Z Z Z (Za Z Z (Zn (Ze (cw_seq (cw_seq (Zr (Zo Z Z Z (Za Z Z (Zn (Ze ?_))))))))))))))
 replace h := bind_some h
 obtain ⟨lr1, hlr1, h⟩ := h
 refine cw_for hlr1 (fun s a w' => ∃ (M' : Nat → Prop), Fits 18 [(1, (.pointer (some p1))), (3, (.int .i64 s))] a ∧ Le w1 M w' M' ∧ Cx No w M w' M') ?_ ?_ ?_
 ·
  intro a ha
  exact ⟨M, ha.sub ⟨Z, Z, trivial⟩, Le.refl _ _, hC1⟩
 ·
  rintro k1 a w2 sr1 ⟨M1, hF1, hl2, hC2⟩ hb2 hR1
  refine cw_at (E := [(1, (.pointer (some p1))), (3, (.int .i64 k1))]) hF1 (cw_seq (cw_seq (Zr (Zo Z Z Z (Zm Z Z (Zo Z Z Z (Zf Z Z Tryd.underlying25 Z (Tryd.sizeOf23 _) (Zo Z Z Z (Zl (R := (RSlice (RSlice RSpan))) Z Z (ARep.mono hl2 (hp1.fld fld_Box_Sides)) (Tryd.sizeOf23 _) (Tryd.isAgg23 _) fun v2 hv2 => Zo Z Z Z (ow_len Z Z hv2 Tryd.underlying23 Z (Zo Z Z Z (ow_lss Z Z Z fun bb1 hbb1 => Zn (Ze ?_)))))))))))))
  replace hb2 := Zc hb2
  rcases hb2 with ⟨hc1, hb2⟩ | ⟨hc1, hb2⟩
  ·
   obtain rfl := hbb1.trans hc1
   refine Zt Z (cw_skip (Ze (cw_seq (cw_block (cw_seq (Zr (Zo Z Z Z (Zf Z Z Tryd.underlying25 Z (Tryd.sizeOf23 _) (Zo Z Z Z (Zl (R := (RSlice (RSlice RSpan))) Z Z (ARep.mono hl2 (hp1.fld fld_Box_Sides)) (Tryd.sizeOf23 _) (Tryd.isAgg23 _) fun v3 hv3 => Zo Z Z Z (Zm Z Z ?_)))))))))))
   replace hb2 := bind_some hb2
   obtain ⟨x1, hx1, hb2⟩ := hb2
   refine Zo Z Z Z (Zx (R := (RSlice RSpan)) Z Z Z hv3 Tryd.underlying23 (Tryd.sizeOf59 _) hx1 fun p2 hp2 => Zo Z Z Z (Zl (R := (RSlice RSpan)) Z Z hp2 (Tryd.sizeOf59 _) (Tryd.isAgg59 _) fun v4 hv4 => Zo Z Z Z (ow_len Z Z hv4 Tryd.underlying59 Z (Zo Z Z Z (ow_eqlI Z Z Z fun bb2 hbb2 => Zn (Ze ?_))))))
   replace hb2 := Zc hb2
   rcases hb2 with ⟨hc2, hb2⟩ | ⟨hc2, hb2⟩
   ·
    obtain rfl := hbb2.trans hc2
    refine Zt Z (cw_seq (Zr (Zo Z Z Z (Za Z Z (Zn (Ze (Zy (ew_blockR (Zh (Zh (ew_blockR (ew_brkR (Zh ?_)))))))))))))
    have e1 := hR1 _ (sj hb2).symm
    subst e1
    obtain rfl := sj h
    exact ew_ret (res1 Z (.tmp Z)) ⟨_, Z, ((vbool _)), hC2.bx⟩
   ·
    obtain rfl := hbb2.trans hc2
    exact Zu Z (cw_skip (ew_blockN (Ze (Zr (Zo Z Z Z (Zm Z Z (Zo Z Z Z (ow_add Z Z Z (Zo Z Z Z (Za Z Z (Zn (ew_nxt (W (k1 + 1)) hb2 fun a ha => ⟨M1, (ha.sub ⟨Z, Z, trivial⟩), hl2, hC2⟩))))))))))))
  ·
   obtain rfl := hbb1.trans hc1
   exact Zu Z (cw_exit (ew_thenX (ew_thenX (ew_blockX (ew_brk k1 hb2 fun a ha => ⟨M1, (ha.sub ⟨Z, Z, trivial⟩), hl2, hC2⟩)))))
 ·
  rintro k2 a w3 hlr2 ⟨M2, hF2, hl3, hC3⟩
  subst hlr2
  refine ew_at (E := [(1, (.pointer (some p1))), (3, (.int .i64 k2))]) hF2 (Ze (cw_seq (Zr (Zo Z Z Z (Za Z Z (Zn (Ze (Zy ?_))))))))
  obtain rfl := sj h
  exact ew_ret (res1 Z (.tmp Z)) ⟨_, Z, ((vbool _)), hC3.bx⟩

theorem w_spec_l10Meet {w : World} {M : Nat → Prop} (hG : ARep (RArr 4 RShape) w M shapes ⟨0, 0, none⟩) (hO : ∀ b, M b → b < w.heap.size) {v0p : Value} {a_a : Box} (h0 : VRep RBox w M a_a v0p) {v1p : Value} {a_b : Box} (h1 : VRep RBox w M a_b v1p) {r : Box} (h : F.spec_l10Meet a_a a_b = some r) :
  Calls Tryd.prog 73 [v0p, v1p].toArray w fun e w' => ∃ v, e = .returned v ∧ VRep RBox w' M r v ∧ BX No w w' := by
 obtain ⟨i59, hi59, hz59, hs59, hy59⟩ := info59
 have hC : Cx No w M w M := Cx.start hO (fun _ e => e.elim)
 refine walk (N := 29) Tryd.func73 Z Tryd.ntmps73 Z (cw_seq (Zr (Zo Z Z Z (ow_box (R := RBox) Z Z h0 hC fun p1 w1 hp1 hb1 hl1 hC1 => Zo Z Z Z (ow_box (R := RBox) Z Z (VRep.mono hl1 h1) hC1 fun p2 w2 hp2 hb2 hl2 hC2 => Zo Z Z Z (ow_alloc Z (Tryd.zeroValue25 _) hC2 fun g1 w3 hg1 hg2 ho1 hb3 hl3 hC3 => ?_))))))
 have hm1 : (Add g1 M) g1 := .inl Z
 refine Zn (Ze (cw_seq (Zr (Zo Z Z Z (ow_build (v := .agg #[(.slice none 0 0)]) Z Z (by kernel_rfl) (Zo Z Z Z (ow_alloc Z (Tryd.zeroValue25 _) hC3 fun g2 w4 hg3 hg4 ho2 hb4 hl4 hC4 => ?_)))))))
 have hn1 := Nat.ne_of_lt (Nat.lt_of_lt_of_le ho1.lt hg3)
 have ho3 := ho1.no hb4
 have hm2 : (Add g2 (Add g1 M)) g1 := .inr hm1
 have hm3 : (Add g2 (Add g1 M)) g2 := .inl Z
 refine lw_op0 Z Z (ow_store (X := No) (us := [(.slice none 0 0)]) (cs' := #[(.slice none 0 0)]) Z Z Z Z ho2 (Tryd.sizeOf25 _) Z Z Z Z hm3 (.inl hg4) Z hC4 fun w5 ho4 hb5 hl5 hC5 => ?_)
 have ho5 := ho3.go hb5 (fun e => hn1 e)
 refine Zn (Ze (cw_seq (cw_seq (Zr (Zo Z Z Z (Za Z Z (Zn (Ze ?_))))))))
 have hr1 : OwnRow (RSlice RSpan) w.heap.size 59 w5 (Add g2 (Add g1 M)) ([] : List (List Span)) (.slice none 0 0) := ownrow_nil
 replace h := bind_some h
 obtain ⟨lr1, hlr1, h⟩ := h
 refine cw_for hlr1 (fun s a w' => ∃ (M' : Nat → Prop) (v1c : Value), Fits 29 [(2, (.pointer (some p1))), (3, (.pointer (some p2))), (4, (.pointer (some ⟨g1, 0, none⟩))), (5, (.pointer (some ⟨g2, 0, none⟩))), (6, (.int .i64 s.1))] a ∧ Le w5 (Add g2 (Add g1 M)) w' M' ∧ Cx No w M w' M' ∧ OwnRow (RSlice RSpan) w.heap.size 59 w' M' s.2 v1c ∧ Own w' g1 25 #[(.slice none 0 0)] ∧ M' g1 ∧ Own w' g2 25 #[v1c] ∧ M' g2) ?_ ?_ ?_
 ·
  intro a ha
  exact ⟨(Add g2 (Add g1 M)), (.slice none 0 0), ha.sub ⟨Z, Z, Z, Z, Z, trivial⟩, Le.refl _ _, hC5, hr1, ho5, hm2, ho4, hm3⟩
 ·
  rintro ⟨k1, y1⟩ a w6 sr1 ⟨M1, v2, hF1, hl6, hC6, hw2, ho6, hm4, ho7, hm5⟩ hb6 hR1
  refine cw_at (E := [(2, (.pointer (some p1))), (3, (.pointer (some p2))), (4, (.pointer (some ⟨g1, 0, none⟩))), (5, (.pointer (some ⟨g2, 0, none⟩))), (6, (.int .i64 k1))]) hF1 (cw_seq (cw_seq (Zr (Zo Z Z Z (Zm Z Z (Zo Z Z Z (ow_lss Z Z Z fun bb1 hbb1 => Zn (Ze ?_))))))))
  replace hb6 := Zc hb6
  rcases hb6 with ⟨hc1, hb6⟩ | ⟨hc1, hb6⟩
  ·
   obtain rfl := hbb1.trans hc1
   refine Zt Z (cw_skip (Ze (cw_seq (cw_block ?_))))
   replace hb6 := bind_some hb6
   obtain ⟨x1, hx1, hb6⟩ := hb6
   replace hb6 := bind_some hb6
   obtain ⟨x2, hx2, hb6⟩ := hb6
   replace hb6 := bind_some hb6
   obtain ⟨x3, hx3, hb6⟩ := hb6
   have lz1 := (((((hl1.trans hl2).trans hl3).trans hl4).trans hl5).trans hl6)
   have lz2 := ((((hl2.trans hl3).trans hl4).trans hl5).trans hl6)
   have lz3 := (((hl3.trans hl4).trans hl5).trans hl6)
   refine cw_sub (E' := [(2, (.pointer (some p1))), (3, (.pointer (some p2))), (4, (.pointer (some ⟨g1, 0, none⟩))), (5, (.pointer (some ⟨g2, 0, none⟩))), (6, (.int .i64 k1))]) ⟨Z, Z, Z, Z, Z, trivial⟩ (cw_drawQ 14 [PEq (.pointer (some ⟨g2, 0, none⟩)), PEq v2, PA (RSlice (RSlice RSpan)) M1 a_a.Sides, PV (RSlice (RSlice RSpan)) M1 a_a.Sides, PEq (.int .i64 k1), PA (RSlice RSpan) M1 x1, PV (RSlice RSpan) M1 x1, PA (RSlice (RSlice RSpan)) M1 a_b.Sides, PV (RSlice (RSlice RSpan)) M1 a_b.Sides, PEq (.int .i64 k1), PA (RSlice RSpan) M1 x2, PV (RSlice RSpan) M1 x2, PV (RSlice RSpan) M1 x3, PV (RSlice (RSlice RSpan)) M1 [x3]] (by kernel_rfl) Z (by kernel_rfl) ⟨Zq, Zq, PA.mono _ _ _, PV.mono _ _ _, Zq, PA.mono _ _ _, PV.mono _ _ _, PA.mono _ _ _, PV.mono _ _ _, Zq, PA.mono _ _ _, PV.mono _ _ _, PV.mono _ _ _, PV.mono _ _ _, trivial⟩ ⟨?_, ?_, ?_, ?_, ?_, ?_, ?_, ?_, ?_, ?_, ?_, ?_, ?_, ?_, trivial⟩ ?_)
   ·
    intro w9 D hS1 hd1
    exact Zs (E' := [(5, (.pointer (some ⟨g2, 0, none⟩)))]) ⟨Z, trivial⟩ (Zp Z (Zf Z Z Tryd.underlying25 Z (Tryd.sizeOf23 _) Zb))
   ·
    intro w10 D hS2 hd2
    have ho15 := ho7.no hS2
    exact Zs (E' := [(12, (.pointer (some ⟨g2, 0, none⟩)))]) ⟨(dpE hd2 0 Z Z), trivial⟩ (Zp Z (ow_loadOwn1 Z Z Z ho15 (Tryd.isAgg23 _) Z Zb))
   ·
    intro w11 D hS3 hd3
    have hl11 := Le.no M1 hS3
    exact Zs (E' := [(2, (.pointer (some p1)))]) ⟨Z, trivial⟩ (Zp Z (Zf Z Z Tryd.underlying25 Z (Tryd.sizeOf23 _) ⟨BX.refl _ _, ⟨_, Z, (ARep.mono (lz2.trans hl11) (hp1.fld fld_Box_Sides))⟩⟩))
   ·
    intro w12 D hS4 hd4
    have d2 : PA (RSlice (RSlice RSpan)) M1 a_a.Sides (D 2) w12 := dpA hd4 2 Z
    obtain ⟨p6, e1, ha1⟩ := d2
    exact Zs (E' := [(14, (.pointer (some p6)))]) ⟨(congrArg some e1), trivial⟩ (Zp Z (Zl (R := (RSlice (RSlice RSpan))) Z Z ha1 (Tryd.sizeOf23 _) (Tryd.isAgg23 _) fun v8 hv8 => ⟨BX.refl _ _, hv8⟩))
   ·
    intro w13 D hS5 hd5
    exact Zs (E' := [(6, (.int .i64 k1))]) ⟨Z, trivial⟩ (Zp Z (Zm Z Z Zb))
   ·
    intro w14 D hS6 hd6
    have d3 : PV (RSlice (RSlice RSpan)) M1 a_a.Sides (D 3) w14 := dpA hd6 3 Z
    generalize hq1 : (D 3) = v9 at d3
    exact Zs (E' := [(15, v9), (16, (.int .i64 k1))]) ⟨(congrArg some hq1), (dpE hd6 4 Z Z), trivial⟩ (Zp Z (Zx (R := (RSlice RSpan)) Z Z Z d3 Tryd.underlying23 (Tryd.sizeOf59 _) hx1 fun p7 hp7 => ⟨BX.refl _ _, ⟨_, Z, hp7⟩⟩))
   ·
    intro w15 D hS7 hd7
    have d5 : PA (RSlice RSpan) M1 x1 (D 5) w15 := dpA hd7 5 Z
    obtain ⟨p8, e2, ha2⟩ := d5
    exact Zs (E' := [(17, (.pointer (some p8)))]) ⟨(congrArg some e2), trivial⟩ (Zp Z (Zl (R := (RSlice RSpan)) Z Z ha2 (Tryd.sizeOf59 _) (Tryd.isAgg59 _) fun v10 hv10 => ⟨BX.refl _ _, hv10⟩))
   ·
    intro w16 D hS8 hd8
    have hl16 := Le.no M1 hS8
    exact Zs (E' := [(3, (.pointer (some p2)))]) ⟨Z, trivial⟩ (Zp Z (Zf Z Z Tryd.underlying25 Z (Tryd.sizeOf23 _) ⟨BX.refl _ _, ⟨_, Z, (ARep.mono (lz3.trans hl16) (hp2.fld fld_Box_Sides))⟩⟩))
   ·
    intro w17 D hS9 hd9
    have d6 : PA (RSlice (RSlice RSpan)) M1 a_b.Sides (D 7) w17 := dpA hd9 7 Z
    obtain ⟨p9, e3, ha3⟩ := d6
    exact Zs (E' := [(19, (.pointer (some p9)))]) ⟨(congrArg some e3), trivial⟩ (Zp Z (Zl (R := (RSlice (RSlice RSpan))) Z Z ha3 (Tryd.sizeOf23 _) (Tryd.isAgg23 _) fun v11 hv11 => ⟨BX.refl _ _, hv11⟩))
   ·
    intro w18 D hS10 hd10
    exact Zs (E' := [(6, (.int .i64 k1))]) ⟨Z, trivial⟩ (Zp Z (Zm Z Z Zb))
   ·
    intro w19 D hS11 hd11
    have d7 : PV (RSlice (RSlice RSpan)) M1 a_b.Sides (D 8) w19 := dpA hd11 8 Z
    generalize hq2 : (D 8) = v12 at d7
    exact Zs (E' := [(20, v12), (21, (.int .i64 k1))]) ⟨(congrArg some hq2), (dpE hd11 9 Z Z), trivial⟩ (Zp Z (Zx (R := (RSlice RSpan)) Z Z Z d7 Tryd.underlying23 (Tryd.sizeOf59 _) hx2 fun p10 hp10 => ⟨BX.refl _ _, ⟨_, Z, hp10⟩⟩))
   ·
    intro w20 D hS12 hd12
    have d9 : PA (RSlice RSpan) M1 x2 (D 10) w20 := dpA hd12 10 Z
    obtain ⟨p11, e4, ha4⟩ := d9
    exact Zs (E' := [(22, (.pointer (some p11)))]) ⟨(congrArg some e4), trivial⟩ (Zp Z (Zl (R := (RSlice RSpan)) Z Z ha4 (Tryd.sizeOf59 _) (Tryd.isAgg59 _) fun v13 hv13 => ⟨BX.refl _ _, hv13⟩))
   ·
    intro w21 D hS13 hd13
    have hl21 := Le.no M1 hS13
    have hC21 := hC6.no hS13
    have d10 : PV (RSlice RSpan) M1 x1 (D 6) w21 := dpA hd13 6 Z
    have d11 : PV (RSlice RSpan) M1 x2 (D 11) w21 := dpA hd13 11 Z
    generalize hq3 : (D 6) = v14 at d10
    generalize hq4 : (D 11) = v15 at d11
    refine Zs (E' := [(18, v14), (23, v15)]) ⟨(congrArg some hq3), (congrArg some hq4), trivial⟩ (Zp Z (Zk Z Z Tryd.call74 (w_spec_l2Meet (hG.mono (lz1.trans hl21)) hC21.old d10 d11 hx3) fun v16 w22 hv16 => ?_))
    obtain ⟨hv16, hb9⟩ := hv16
    exact ⟨hb9, hv16⟩
   ·
    intro w23 D hS14 hd14
    have hC23 := hC6.no hS14
    have d12 : PV (RSlice RSpan) M1 x3 (D 12) w23 := dpA hd14 12 Z
    generalize hq5 : (D 12) = v17 at d12
    refine Zs (E' := [(24, v17)]) ⟨(congrArg some hq5), trivial⟩ ?_
    obtain ⟨A2, c2, rfl, -⟩ := vslice_shape d12
    exact Zp Z (ow_buildSlice (R := (RSlice RSpan)) (xs := [x3]) (cs := #[(.slice A2 x3.length c2)]) (e := 59) Z Z (by kernel_rfl) Z Z ⟨_, _, Z, d12.cells, Z⟩ hC23 fun p12 w24 hw4 hb10 hl24 hC24 => ⟨hb10, hw4⟩)
   ·
    intro w25 D hS15 hd15
    have d26 : PV (RSlice (RSlice RSpan)) M1 [x3] (D 13) w25 := dpA hd15 13 Z
    have hl25 := Le.no M1 hS15
    have hC25 := hC6.no hS15
    have ho44 := ho6.no hS15
    have ho45 := ho7.no hS15
    have hr20 := hw2.no hS15
    generalize hq6 : (D 13) = v18 at d26
    refine lw_sub (E' := [(13, v2), (25, v18), (2, (.pointer (some p1))), (3, (.pointer (some p2))), (4, (.pointer (some ⟨g1, 0, none⟩))), (5, (.pointer (some ⟨g2, 0, none⟩))), (6, (.int .i64 k1))]) ⟨(dpE hd15 1 Z Z), (congrArg some hq6), Z, Z, Z, Z, Z, trivial⟩ ?_
    replace hb6 := bind_some hb6
    obtain ⟨z1, hz1, hb6⟩ := hb6
    refine Zo Z Z Z (ow_append (R := (RSlice RSpan)) Z Z Z Z Tryd.underlying23 hi59 hz59 hs59 hy59 Z Z Z Z hr20 d26 hz1 hC25 fun v19 w26 M2 hr21 hb11 hl26 hC26 hM1 hat1 => ?_)
    have ho46 := ho44.go hb11 (fun e => (orow_ne hr20 ho44 (by decide)) e)
    have hm6 := hM1 _ hm4
    have ho47 := ho45.go hb11 (fun e => (orow_ne hr20 ho45 (by decide)) e)
    have hm7 := hM1 _ hm5
    refine Zo Z Z Z (Zf Z Z Tryd.underlying25 Z (Tryd.sizeOf23 _) ?_)
    obtain ⟨A3, c3, rfl⟩ := hr21.len
    refine lw_op0 Z Z (ow_store (X := No) (us := [(.slice A3 z1.length c3)]) (cs' := #[(.slice A3 z1.length c3)]) Z Z Z Z ho47 (Tryd.sizeOf23 _) Z Z Z Z hm7 (.inl hg4) Z hC26 fun w27 ho48 hb12 hl27 hC27 => ?_)
    have ho49 := ho46.go hb12 (fun e => hn1 e)
    have hr22 := hr21.go hb12 (fun k hk e => (orow_ne hr21 ho47 (by decide)) (hk.trans (congrArg some e))) hl27 (fun _ h => h)
    refine Zn (ew_blockN (Ze (Zr (Zo Z Z Z (Zm Z Z (Zo Z Z Z (ow_add Z Z Z (Zo Z Z Z (Za Z Z (Zn ?_))))))))))
    have lz4 := (((hl6.trans hl25).trans hl26).trans hl27)
    exact ew_nxt ((W (k1 + 1)), z1) hb6 fun a ha => ⟨M2, (.slice A3 z1.length c3), (ha.sub ⟨Z, Z, Z, Z, Z, trivial⟩), lz4, hC27, hr22, ho49, hm6, ho48, hm7⟩
  ·
   obtain rfl := hbb1.trans hc1
   exact Zu Z (cw_exit (ew_thenX (ew_thenX (ew_blockX (ew_brk (k1, y1) hb6 fun a ha => ⟨M1, v2, (ha.sub ⟨Z, Z, Z, Z, Z, trivial⟩), hl6, hC6, hw2, ho6, hm4, ho7, hm5⟩)))))
 ·
  rintro ⟨k2, y2⟩ a w28 hlr2 ⟨M3, v21, hF2, hl28, hC28, hw5, ho50, hm8, ho51, hm9⟩
  subst hlr2
  refine ew_at (E := [(2, (.pointer (some p1))), (3, (.pointer (some p2))), (4, (.pointer (some ⟨g1, 0, none⟩))), (5, (.pointer (some ⟨g2, 0, none⟩))), (6, (.int .i64 k2))]) hF2 (Ze (cw_seq (Zr (Zo Z Z Z (ow_loadOwnA Z Z Z ho51 (Tryd.isAgg25 _) (Tryd.sizeOf25 _) Z ?_)))))
  have hw6 := hw5.freezeDel
  have hC29 := hw5.cxDel hC28 (fun _ e => e.elim) hO
  have hm10 : (Del v21 M3) g1 := ⟨hm8, fun e => (orow_ne hw5 ho50 (by decide)) e⟩
  obtain ⟨A4, c4, rfl, -⟩ := vslice_shape hw6
  refine lw_op0 Z Z (ow_store (X := No) (us := [(.slice A4 y2.length c4)]) (cs' := #[(.slice A4 y2.length c4)]) Z Z Z Z ho50 (Tryd.sizeOf25 _) Z Z Z Z hm10 (.inl hg2) Z hC29 fun w29 ho52 hb13 hl30 hC30 => Zn (Ze (Zy ?_)))
  have hw8 : VRep RBox w29 (Del (.slice A4 y2.length c4) M3) ({ Sides := y2 } : Box) (.agg #[(.slice A4 y2.length c4)]) := shut_Box (VRep.mono hl30 hw6)
  obtain rfl := sj h
  exact ew_ret (res1 Z (.cell Z (own_loadVarA ho52 (Tryd.isAgg25 _) (Tryd.sizeOf25 _) Z))) ⟨_, Z, (hw8.mono hC30.back), hC30.bx⟩

theorem w_spec_l11Cut {w : World} {M : Nat → Prop} (hG : ARep (RArr 4 RShape) w M shapes ⟨0, 0, none⟩) (hO : ∀ b, M b → b < w.heap.size) {v0p : Value} {a_a : Box} (h0 : VRep RBox w M a_a v0p) {v1p : Value} {a_b : Box} (h1 : VRep RBox w M a_b v1p) {r : (List Box)} (h : F.spec_l11Cut a_a a_b = some r) :
  Calls Tryd.prog 37 [v0p, v1p].toArray w fun e w' => ∃ v, e = .returned v ∧ VRep (RSlice RBox) w' M r v ∧ BX No w w' := by
 obtain ⟨i25, hi25, hz25, hs25, hy25⟩ := info25
 have hC : Cx No w M w M := Cx.start hO (fun _ e => e.elim)
 refine walk (N := 82) Tryd.func37 Z Tryd.ntmps37 Z (cw_seq (Zr (Zo Z Z Z (ow_box (R := RBox) Z Z h0 hC fun p1 w1 hp1 hb1 hl1 hC1 => Zo Z Z Z (ow_box (R := RBox) Z Z (VRep.mono hl1 h1) hC1 fun p2 w2 hp2 hb2 hl2 hC2 => Zo Z Z Z (Za Z Z (Zn (Ze (cw_seq (Zr (Zo Z Z Z (ow_buildSlice0 (R := RBox) (e := 25) Z (by kernel_rfl) hC2 fun p3 w3 M1 hr1 hb3 hl3 hC3 hM1 hat1 => Zo Z Z Z (Za Z Z (Zn (Ze (cw_seq (cw_seq (Zr (Zo Z Z Z (Zl (R := RBox) Z Z (ARep.mono (hl2.trans hl3) hp1) (Tryd.sizeOf25 _) (Tryd.isAgg25 _) fun v1 hv1 => Zo Z Z Z (Zl (R := RBox) Z Z (ARep.mono hl3 hp2) (Tryd.sizeOf25 _) (Tryd.isAgg25 _) fun v2 hv2 => ?_)))))))))))))))))))))
 replace h := bind_some h
 obtain ⟨x1, hx1, h⟩ := h
 have lz1 := ((hl1.trans hl2).trans hl3)
 refine Zo Z Z Z (Zk Z Z Tryd.call73 (w_spec_l10Meet (hG.mono lz1) hC3.old hv1 hv2 hx1) fun v3 w4 hv3 => ?_)
 obtain ⟨hv3, hb4⟩ := hv3
 have hl4 := Le.no M1 hb4
 have hC4 := hC3.no hb4
 have hr2 := hr1.no hb4
 replace h := bind_some h
 obtain ⟨x2, hx2, h⟩ := h
 refine Zo Z Z Z (Zk Z Z Tryd.call72 (w_spec_l10Empty (hG.mono (lz1.trans hl4)) hC4.old hv3 hx2) fun v4 w5 hv4 => ?_)
 obtain ⟨hv4, hb5⟩ := hv4
 have hl5 := Le.no M1 hb5
 have hC5 := hC4.no hb5
 have hr3 := hr2.no hb5
 obtain rfl := vbool_eq hv4
 refine Zn (Ze ?_)
 replace h := Zc h
 rcases h with ⟨hc1, h⟩ | ⟨hc1, h⟩
 ·
  subst hc1
  refine Zt Z (cw_seq (cw_seq (Zr ?_)))
  have lz2 := (((hl2.trans hl3).trans hl4).trans hl5)
  refine Zo Z Z Z (Zl (R := RBox) Z Z (ARep.mono lz2 hp1) (Tryd.sizeOf25 _) (Tryd.isAgg25 _) fun v5 hv5 => ?_)
  replace h := bind_some h
  obtain ⟨x3, hx3, h⟩ := h
  have lz3 := ((lz1.trans hl4).trans hl5)
  refine Zo Z Z Z (Zk Z Z Tryd.call72 (w_spec_l10Empty (hG.mono lz3) hC5.old hv5 hx3) fun v6 w6 hv6 => ?_)
  obtain ⟨hv6, hb6⟩ := hv6
  have hl6 := Le.no M1 hb6
  have hC6 := hC5.no hb6
  have hr4 := hr3.no hb6
  obtain rfl := vbool_eq hv6
  refine Zo Z Z Z (ow_not Z Z (Zn (Ze ?_)))
  replace h := Zc h
  rcases h with ⟨hc2, h⟩ | ⟨hc2, h⟩
  ·
   subst hc2
   refine Zu Z (cw_skip (Ze (cw_seq (Zr (Zo Z Z Z (Zm Z Z (Zo Z Z Z (Za Z Z (Zn (Ze (Zy (Zh ?_))))))))))))
   obtain rfl := sj h
   exact ew_ret (res1 Z (.tmp Z)) ⟨_, Z, (hr4.freezeBack hC6 hO), hC6.bx⟩
  ·
   subst hc2
   refine Zt Z (Zr (Zo Z Z Z (Zm Z Z (Zo Z Z Z (Zl (R := RBox) Z Z (ARep.mono (lz2.trans hl6) hp1) (Tryd.sizeOf25 _) (Tryd.isAgg25 _) fun v7 hv7 => ?_)))))
   obtain ⟨A1, c1, rfl, hw1⟩ := open_Box hv7
   refine Zo Z Z Z (ow_buildSlice (R := RBox) (xs := [a_a]) (cs := #[(.slice A1 a_a.Sides.length c1)]) (e := 25) Z Z (by kernel_rfl) Z Z ⟨_, _, Z, hv7.cells, Z⟩ hC6 fun p4 w7 hw2 hb7 hl7 hC7 => ?_)
   have hr5 := hr4.no hb7
   replace h := bind_some h
   obtain ⟨z1, hz1, h⟩ := h
   refine Zo Z Z Z (ow_append (R := RBox) Z Z Z Z Tryd.underlying28 hi25 hz25 hs25 hy25 Z Z Z Z hr5 hw2 hz1 hC7 fun v8 w8 M2 hr6 hb8 hl8 hC8 hM2 hat2 => Zo Z Z Z (Za Z Z (Zn (Ze (cw_seq (Zr (Zo Z Z Z (Zm Z Z (Zo Z Z Z (Za Z Z (Zn (Ze (Zy (Zh ?_))))))))))))))
   obtain rfl := sj h
   exact ew_ret (res1 Z (.tmp Z)) ⟨_, Z, (hr6.freezeBack hC8 hO), hC8.bx⟩
 ·
  subst hc1
  refine Zu Z (cw_skip (Ze (cw_seq (Zr ?_))))
  have lz4 := (((hl2.trans hl3).trans hl4).trans hl5)
  refine Zo Z Z Z (Zl (R := RBox) Z Z (ARep.mono lz4 hp1) (Tryd.sizeOf25 _) (Tryd.isAgg25 _) fun v9 hv9 => Zo Z Z Z (ow_alloc Z (Tryd.zeroValue25 _) hC5 fun g1 w9 hg1 hg2 ho1 hb9 hl9 hC9 => ?_))
  have hn1 := nb_fresh hr3 hg1
  have hr7 := hr3.add hb9 hg1
  have hm1 : (Add g1 M1) g1 := .inl Z
  obtain ⟨A2, c2, rfl, hw3⟩ := open_Box hv9
  refine lw_op0 Z Z (ow_store (X := No) (us := [(.slice A2 a_a.Sides.length c2)]) (cs' := #[(.slice A2 a_a.Sides.length c2)]) Z Z Z Z ho1 (Tryd.sizeOf25 _) Z Z Z Z hm1 (.inl hg2) Z hC9 fun w10 ho2 hb10 hl10 hC10 => ?_)
  have hr8 := hr7.go hb10 (fun k hk e => hn1 (hk.trans (congrArg some e))) hl10 (fun _ h => h)
  refine Zn (Ze (cw_seq (cw_seq (Zr (Zo Z Z Z (Za Z Z (Zn (Ze ?_))))))))
  replace h := bind_some h
  obtain ⟨lr1, hlr1, h⟩ := h
  refine cw_for hlr1 (fun s a w' => ∃ (M' : Nat → Prop) (v0c : Value) (v2c : Value), Fits 82 [(3, (.pointer (some p2))), (5, v0c), (6, (.pointer (some ⟨g1, 0, none⟩))), (7, (.int .i64 s.2.1))] a ∧ Le w10 (Add g1 M1) w' M' ∧ Cx No w M w' M' ∧ OwnRow RBox w.heap.size 25 w' M' s.1 v0c ∧ VRep (RSlice (RSlice RSpan)) w' M' s.2.2 v2c ∧ Own w' g1 25 #[v2c] ∧ M' g1 ∧ (Value.ownBlock v0c) ≠ some g1) ?_ ?_ ?_
  ·
   intro a ha
   exact ⟨(Add g1 M1), (.slice (some p3) 0 0), (.slice A2 a_a.Sides.length c2), ha.sub ⟨Z, Z, Z, Z, trivial⟩, Le.refl _ _, hC10, hr8, (VRep.mono (hl9.trans hl10) hw3), ho2, hm1, hn1⟩
  ·
   rintro ⟨y1, k1, y2⟩ a w11 sr1 ⟨M3, v10, v12, hF1, hl11, hC11, hw4, hw5, ho3, hm2, hn2⟩ hb11 hR1
   refine cw_at (E := [(3, (.pointer (some p2))), (5, v10), (6, (.pointer (some ⟨g1, 0, none⟩))), (7, (.int .i64 k1))]) hF1 (cw_seq (cw_seq (Zr (Zo Z Z Z (Zm Z Z (Zo Z Z Z (ow_lss Z Z Z fun bb1 hbb1 => Zn (Ze ?_))))))))
   replace hb11 := Zc hb11
   rcases hb11 with ⟨hc3, hb11⟩ | ⟨hc3, hb11⟩
   ·
    obtain rfl := hbb1.trans hc3
    refine Zt Z (cw_skip (Ze (cw_seq (cw_block (cw_seq ?_)))))
    replace hb11 := bind_some hb11
    obtain ⟨x4, hx4, hb11⟩ := hb11
    replace hb11 := bind_some hb11
    obtain ⟨x5, hx5, hb11⟩ := hb11
    replace hb11 := bind_some hb11
    obtain ⟨x6, hx6, hb11⟩ := hb11
    replace hb11 := bind_some hb11
    obtain ⟨x7, hx7, hb11⟩ := hb11
    have lz5 := (((((lz1.trans hl4).trans hl5).trans hl9).trans hl10).trans hl11)
    have lz6 := (((((hl3.trans hl4).trans hl5).trans hl9).trans hl10).trans hl11)
    refine cw_sub (E' := [(3, (.pointer (some p2))), (5, v10), (6, (.pointer (some ⟨g1, 0, none⟩))), (7, (.int .i64 k1))]) ⟨Z, Z, Z, Z, trivial⟩ (cw_drawQ 13 [PEq (.pointer (some ⟨g1, 0, none⟩)), PV (RSlice (RSlice RSpan)) M3 y2, PEq (.int .i64 k1), PA (RSlice RSpan) M3 x4, PV (RSlice RSpan) M3 x4, PA (RSlice (RSlice RSpan)) M3 a_b.Sides, PV (RSlice (RSlice RSpan)) M3 a_b.Sides, PEq (.int .i64 k1), PA (RSlice RSpan) M3 x5, PV (RSlice RSpan) M3 x5, PEq (.int .i64 k1), PEq (.int .i64 x6), PV (RSlice RSpan) M3 x7] (by kernel_rfl) Z (by kernel_rfl) ⟨Zq, PV.mono _ _ _, Zq, PA.mono _ _ _, PV.mono _ _ _, PA.mono _ _ _, PV.mono _ _ _, Zq, PA.mono _ _ _, PV.mono _ _ _, Zq, Zq, PV.mono _ _ _, trivial⟩ ⟨?_, ?_, ?_, ?_, ?_, ?_, ?_, ?_, ?_, ?_, ?_, ?_, ?_, trivial⟩ ?_)
    ·
     intro w14 D hS1 hd1
     exact Zs (E' := [(6, (.pointer (some ⟨g1, 0, none⟩)))]) ⟨Z, trivial⟩ (Zp Z (Zf Z Z Tryd.underlying25 Z (Tryd.sizeOf23 _) Zb))
    ·
     intro w15 D hS2 hd2
     have hl15 := Le.no M3 hS2
     have ho7 := ho3.no hS2
     exact Zs (E' := [(30, (.pointer (some ⟨g1, 0, none⟩)))]) ⟨(dpE hd2 0 Z Z), trivial⟩ (Zp Z (ow_loadOwn1 Z Z Z ho7 (Tryd.isAgg23 _) Z ⟨BX.refl _ _, (VRep.mono hl15 hw5)⟩))
    ·
     intro w16 D hS3 hd3
     exact Zs (E' := [(7, (.int .i64 k1))]) ⟨Z, trivial⟩ (Zp Z (Zm Z Z Zb))
    ·
     intro w17 D hS4 hd4
     have d2 : PV (RSlice (RSlice RSpan)) M3 y2 (D 1) w17 := dpA hd4 1 Z
     generalize hq1 : (D 1) = v18 at d2
     exact Zs (E' := [(31, v18), (32, (.int .i64 k1))]) ⟨(congrArg some hq1), (dpE hd4 2 Z Z), trivial⟩ (Zp Z (Zx (R := (RSlice RSpan)) Z Z Z d2 Tryd.underlying23 (Tryd.sizeOf59 _) hx4 fun p7 hp7 => ⟨BX.refl _ _, ⟨_, Z, hp7⟩⟩))
    ·
     intro w18 D hS5 hd5
     have d4 : PA (RSlice RSpan) M3 x4 (D 3) w18 := dpA hd5 3 Z
     obtain ⟨p8, e1, ha1⟩ := d4
     exact Zs (E' := [(33, (.pointer (some p8)))]) ⟨(congrArg some e1), trivial⟩ (Zp Z (Zl (R := (RSlice RSpan)) Z Z ha1 (Tryd.sizeOf59 _) (Tryd.isAgg59 _) fun v19 hv19 => ⟨BX.refl _ _, hv19⟩))
    ·
     intro w19 D hS6 hd6
     have hl19 := Le.no M3 hS6
     exact Zs (E' := [(3, (.pointer (some p2)))]) ⟨Z, trivial⟩ (Zp Z (Zf Z Z Tryd.underlying25 Z (Tryd.sizeOf23 _) ⟨BX.refl _ _, ⟨_, Z, (ARep.mono (lz6.trans hl19) (hp2.fld fld_Box_Sides))⟩⟩))
    ·
     intro w20 D hS7 hd7
     have d5 : PA (RSlice (RSlice RSpan)) M3 a_b.Sides (D 5) w20 := dpA hd7 5 Z
     obtain ⟨p9, e2, ha2⟩ := d5
     exact Zs (E' := [(35, (.pointer (some p9)))]) ⟨(congrArg some e2), trivial⟩ (Zp Z (Zl (R := (RSlice (RSlice RSpan))) Z Z ha2 (Tryd.sizeOf23 _) (Tryd.isAgg23 _) fun v20 hv20 => ⟨BX.refl _ _, hv20⟩))
    ·
     intro w21 D hS8 hd8
     exact Zs (E' := [(7, (.int .i64 k1))]) ⟨Z, trivial⟩ (Zp Z (Zm Z Z Zb))
    ·
     intro w22 D hS9 hd9
     have d6 : PV (RSlice (RSlice RSpan)) M3 a_b.Sides (D 6) w22 := dpA hd9 6 Z
     generalize hq2 : (D 6) = v21 at d6
     exact Zs (E' := [(36, v21), (37, (.int .i64 k1))]) ⟨(congrArg some hq2), (dpE hd9 7 Z Z), trivial⟩ (Zp Z (Zx (R := (RSlice RSpan)) Z Z Z d6 Tryd.underlying23 (Tryd.sizeOf59 _) hx5 fun p10 hp10 => ⟨BX.refl _ _, ⟨_, Z, hp10⟩⟩))
    ·
     intro w23 D hS10 hd10
     have d8 : PA (RSlice RSpan) M3 x5 (D 8) w23 := dpA hd10 8 Z
     obtain ⟨p11, e3, ha3⟩ := d8
     exact Zs (E' := [(38, (.pointer (some p11)))]) ⟨(congrArg some e3), trivial⟩ (Zp Z (Zl (R := (RSlice RSpan)) Z Z ha3 (Tryd.sizeOf59 _) (Tryd.isAgg59 _) fun v22 hv22 => ⟨BX.refl _ _, hv22⟩))
    ·
     intro w24 D hS11 hd11
     exact Zs (E' := [(7, (.int .i64 k1))]) ⟨Z, trivial⟩ (Zp Z (Zm Z Z Zb))
    ·
     intro w25 D hS12 hd12
     have hl25 := Le.no M3 hS12
     have hC25 := hC11.no hS12
     refine Zs (E' := [(40, (.int .i64 k1))]) ⟨(dpE hd12 10 Z Z), trivial⟩ (Zp Z (Zk Z Z Tryd.call39 (w_spec_FieldTop (hG.mono (lz5.trans hl25)) hC25.old hx6) fun v23 w26 hv23 => ?_))
     obtain ⟨hv23, hb14⟩ := hv23
     obtain rfl := Zi hv23
     exact ⟨hb14, Z⟩
    ·
     intro w27 D hS13 hd13
     have hl27 := Le.no M3 hS13
     have hC27 := hC11.no hS13
     have d10 : PV (RSlice RSpan) M3 x5 (D 9) w27 := dpA hd13 9 Z
     generalize hq3 : (D 9) = v24 at d10
     refine Zs (E' := [(39, v24), (41, (.int .i64 x6))]) ⟨(congrArg some hq3), (dpE hd13 11 Z Z), trivial⟩ (Zp Z (Zk Z Z Tryd.call75 (w_spec_l2Other (hG.mono (lz5.trans hl27)) hC27.old d10 hx7) fun v25 w28 hv25 => ?_))
     obtain ⟨hv25, hb15⟩ := hv25
     exact ⟨hb15, hv25⟩
    ·
     intro w29 D hS14 hd14
     have d17 : PV (RSlice RSpan) M3 x4 (D 4) w29 := dpA hd14 4 Z
     have d25 : PV (RSlice RSpan) M3 x7 (D 12) w29 := dpA hd14 12 Z
     have hl29 := Le.no M3 hS14
     have hC29 := hC11.no hS14
     have ho21 := ho3.no hS14
     have hr26 := hw4.no hS14
     generalize hq4 : (D 4) = v26 at d17
     generalize hq5 : (D 12) = v27 at d25
     refine lw_sub (E' := [(34, v26), (42, v27), (3, (.pointer (some p2))), (5, v10), (6, (.pointer (some ⟨g1, 0, none⟩))), (7, (.int .i64 k1))]) ⟨(congrArg some hq4), (congrArg some hq5), Z, Z, Z, Z, trivial⟩ ?_
     replace hb11 := bind_some hb11
     obtain ⟨x8, hx8, hb11⟩ := hb11
     refine Zo Z Z Z (Zk Z Z Tryd.call74 (w_spec_l2Meet (hG.mono (lz5.trans hl29)) hC29.old d17 d25 hx8) fun v28 w30 hv28 => ?_)
     obtain ⟨hv28, hb16⟩ := hv28
     have hl30 := Le.no M3 hb16
     have hC30 := hC29.no hb16
     have ho22 := ho21.no hb16
     have hr27 := hr26.no hb16
     refine Zo Z Z Z (Za Z Z (Zn (Ze (cw_seq ?_))))
     have lz7 := ((lz5.trans hl29).trans hl30)
     have lz8 := ((lz6.trans hl29).trans hl30)
     have lz9 := (hl29.trans hl30)
     refine cw_sub (E' := [(3, (.pointer (some p2))), (5, v10), (6, (.pointer (some ⟨g1, 0, none⟩))), (7, (.int .i64 k1)), (8, v28)]) ⟨Z, Z, Z, Z, Z, trivial⟩ (cw_drawQ 10 [PEq (.pointer (some ⟨g1, 0, none⟩)), PV (RSlice (RSlice RSpan)) M3 y2, PEq (.int .i64 k1), PA (RSlice RSpan) M3 x4, PV (RSlice RSpan) M3 x4, PA (RSlice (RSlice RSpan)) M3 a_b.Sides, PV (RSlice (RSlice RSpan)) M3 a_b.Sides, PEq (.int .i64 k1), PA (RSlice RSpan) M3 x5, PV (RSlice RSpan) M3 x5] (by kernel_rfl) Z (by kernel_rfl) ⟨Zq, PV.mono _ _ _, Zq, PA.mono _ _ _, PV.mono _ _ _, PA.mono _ _ _, PV.mono _ _ _, Zq, PA.mono _ _ _, PV.mono _ _ _, trivial⟩ ⟨?_, ?_, ?_, ?_, ?_, ?_, ?_, ?_, ?_, ?_, trivial⟩ ?_)
     ·
      intro w31 D hS15 hd15
      exact Zs (E' := [(6, (.pointer (some ⟨g1, 0, none⟩)))]) ⟨Z, trivial⟩ (Zp Z (Zf Z Z Tryd.underlying25 Z (Tryd.sizeOf23 _) Zb))
     ·
      intro w32 D hS16 hd16
      have hl32 := Le.no M3 hS16
      have ho24 := ho22.no hS16
      exact Zs (E' := [(44, (.pointer (some ⟨g1, 0, none⟩)))]) ⟨(dpE hd16 0 Z Z), trivial⟩ (Zp Z (ow_loadOwn1 Z Z Z ho24 (Tryd.isAgg23 _) Z ⟨BX.refl _ _, (VRep.mono (lz9.trans hl32) hw5)⟩))
     ·
      intro w33 D hS17 hd17
      exact Zs (E' := [(7, (.int .i64 k1))]) ⟨Z, trivial⟩ (Zp Z (Zm Z Z Zb))
     ·
      intro w34 D hS18 hd18
      have d27 : PV (RSlice (RSlice RSpan)) M3 y2 (D 1) w34 := dpA hd18 1 Z
      generalize hq6 : (D 1) = v32 at d27
      exact Zs (E' := [(45, v32), (46, (.int .i64 k1))]) ⟨(congrArg some hq6), (dpE hd18 2 Z Z), trivial⟩ (Zp Z (Zx (R := (RSlice RSpan)) Z Z Z d27 Tryd.underlying23 (Tryd.sizeOf59 _) hx4 fun p14 hp14 => ⟨BX.refl _ _, ⟨_, Z, hp14⟩⟩))
     ·
      intro w35 D hS19 hd19
      have d29 : PA (RSlice RSpan) M3 x4 (D 3) w35 := dpA hd19 3 Z
      obtain ⟨p15, e4, ha4⟩ := d29
      exact Zs (E' := [(47, (.pointer (some p15)))]) ⟨(congrArg some e4), trivial⟩ (Zp Z (Zl (R := (RSlice RSpan)) Z Z ha4 (Tryd.sizeOf59 _) (Tryd.isAgg59 _) fun v33 hv33 => ⟨BX.refl _ _, hv33⟩))
     ·
      intro w36 D hS20 hd20
      have hl36 := Le.no M3 hS20
      exact Zs (E' := [(3, (.pointer (some p2)))]) ⟨Z, trivial⟩ (Zp Z (Zf Z Z Tryd.underlying25 Z (Tryd.sizeOf23 _) ⟨BX.refl _ _, ⟨_, Z, (ARep.mono (lz8.trans hl36) (hp2.fld fld_Box_Sides))⟩⟩))
     ·
      intro w37 D hS21 hd21
      have d30 : PA (RSlice (RSlice RSpan)) M3 a_b.Sides (D 5) w37 := dpA hd21 5 Z
      obtain ⟨p16, e5, ha5⟩ := d30
      exact Zs (E' := [(49, (.pointer (some p16)))]) ⟨(congrArg some e5), trivial⟩ (Zp Z (Zl (R := (RSlice (RSlice RSpan))) Z Z ha5 (Tryd.sizeOf23 _) (Tryd.isAgg23 _) fun v34 hv34 => ⟨BX.refl _ _, hv34⟩))
     ·
      intro w38 D hS22 hd22
      exact Zs (E' := [(7, (.int .i64 k1))]) ⟨Z, trivial⟩ (Zp Z (Zm Z Z Zb))
     ·
      intro w39 D hS23 hd23
      have d31 : PV (RSlice (RSlice RSpan)) M3 a_b.Sides (D 6) w39 := dpA hd23 6 Z
      generalize hq7 : (D 6) = v35 at d31
      exact Zs (E' := [(50, v35), (51, (.int .i64 k1))]) ⟨(congrArg some hq7), (dpE hd23 7 Z Z), trivial⟩ (Zp Z (Zx (R := (RSlice RSpan)) Z Z Z d31 Tryd.underlying23 (Tryd.sizeOf59 _) hx5 fun p17 hp17 => ⟨BX.refl _ _, ⟨_, Z, hp17⟩⟩))
     ·
      intro w40 D hS24 hd24
      have d33 : PA (RSlice RSpan) M3 x5 (D 8) w40 := dpA hd24 8 Z
      obtain ⟨p18, e6, ha6⟩ := d33
      exact Zs (E' := [(52, (.pointer (some p18)))]) ⟨(congrArg some e6), trivial⟩ (Zp Z (Zl (R := (RSlice RSpan)) Z Z ha6 (Tryd.sizeOf59 _) (Tryd.isAgg59 _) fun v36 hv36 => ⟨BX.refl _ _, hv36⟩))
     ·
      intro w41 D hS25 hd25
      have d38 : PV (RSlice RSpan) M3 x4 (D 4) w41 := dpA hd25 4 Z
      have d43 : PV (RSlice RSpan) M3 x5 (D 9) w41 := dpA hd25 9 Z
      have hl41 := Le.no M3 hS25
      have hC41 := hC30.no hS25
      have ho33 := ho22.no hS25
      have hr38 := hr27.no hS25
      generalize hq8 : (D 4) = v37 at d38
      generalize hq9 : (D 9) = v38 at d43
      refine lw_sub (E' := [(48, v37), (53, v38), (3, (.pointer (some p2))), (5, v10), (6, (.pointer (some ⟨g1, 0, none⟩))), (7, (.int .i64 k1)), (8, v28)]) ⟨(congrArg some hq8), (congrArg some hq9), Z, Z, Z, Z, Z, trivial⟩ ?_
      replace hb11 := bind_some hb11
      obtain ⟨x9, hx9, hb11⟩ := hb11
      refine Zo Z Z Z (Zk Z Z Tryd.call74 (w_spec_l2Meet (hG.mono (lz7.trans hl41)) hC41.old d38 d43 hx9) fun v39 w42 hv39 => ?_)
      obtain ⟨hv39, hb17⟩ := hv39
      have hl42 := Le.no M3 hb17
      have hC42 := hC41.no hb17
      have ho34 := ho33.no hb17
      have hr39 := hr38.no hb17
      refine Zo Z Z Z (Za Z Z (Zn (Ze (cw_seq (cw_seq (Zr (Zo Z Z Z (Zm Z Z (Zo Z Z Z (ow_len Z Z (VRep.mono (hl41.trans hl42) hv28) Tryd.underlying59 Z (Zo Z Z Z (ow_gtr Z Z Z fun bb2 hbb2 => Zn (Ze ?_)))))))))))))
      replace hb11 := Zc hb11
      rcases hb11 with ⟨hc4, hb11⟩ | ⟨hc4, hb11⟩
      ·
       obtain rfl := hbb2.trans hc4
       refine Zt Z (cw_seq (Zr (Zo Z Z Z (Zf Z Z Tryd.underlying25 Z (Tryd.sizeOf23 _) (Zo Z Z Z (ow_loadOwn1 Z Z Z ho34 (Tryd.isAgg23 _) Z ?_))))))
       have lz10 := ((lz9.trans hl41).trans hl42)
       replace hb11 := bind_some hb11
       obtain ⟨x10, hx10, hb11⟩ := hb11
       have lz11 := ((lz7.trans hl41).trans hl42)
       refine Zo Z Z Z (Zk Z Z Tryd.call71 (wo_spec_l1OwnRowsSpan (hG.mono lz11) hC42.old (VRep.mono lz10 hw5) hx10) fun v40 w43 hv40 => ?_)
       obtain ⟨⟨M4, hr40, hk1⟩, hb18⟩ := hv40
       replace hr40 := hr40.base hC42.bx.size
       have hl43 := hk1.le
       have hC43 := hC42.trans hk1
       have ho35 := ho34.no hb18
       have hm3 := hk1.sup _ hm2
       have hr41 := hr39.go hb18 (fun _ _ e => e) hl43 hk1.sup
       obtain ⟨A3, c3, rfl⟩ := hr40.len
       refine Zo Z Z Z (ow_build (v := .agg #[(.slice A3 x10.length c3)]) Z Z (by kernel_rfl) (Zo Z Z Z (ow_alloc Z (Tryd.zeroValue25 _) hC43 fun g2 w44 hg3 hg4 ho36 hb19 hl44 hC44 => ?_)))
       have hn3 := Nat.ne_of_lt (Nat.lt_of_lt_of_le ho35.lt hg3)
       have ho37 := ho35.no hb19
       have hm4 : (Add g2 M4) g1 := .inr hm3
       have hn4 := nb_fresh hr41 hg3
       have hr42 := hr41.add hb19 hg3
       have hr43 := hr40.add hb19 hg3
       have hm5 : (Add g2 M4) g2 := .inl Z
       refine lw_op0 Z Z (ow_store (X := No) (us := [(.slice A3 x10.length c3)]) (cs' := #[(.slice A3 x10.length c3)]) Z Z Z Z ho36 (Tryd.sizeOf25 _) Z Z Z Z hm5 (.inl hg4) Z hC44 fun w45 ho38 hb20 hl45 hC45 => ?_)
       have ho39 := ho37.go hb20 (fun e => hn3 e)
       have hr44 := hr42.go hb20 (fun k hk e => hn4 (hk.trans (congrArg some e))) hl45 (fun _ h => h)
       have hr45 := hr43.go hb20 (fun k hk e => (orow_ne hr43 ho36 (by decide)) (hk.trans (congrArg some e))) hl45 (fun _ h => h)
       refine Zn (Ze (cw_seq (Zr (Zo Z Z Z (Zf Z Z Tryd.underlying25 Z (Tryd.sizeOf23 _) (Zo Z Z Z (ow_loadOwn1 Z Z Z ho38 (Tryd.isAgg23 _) Z (Zo Z Z Z (Zm Z Z (Zo Z Z Z (Zm Z Z ?_)))))))))))
       replace hb11 := bind_some hb11
       obtain ⟨x11, hx11, hb11⟩ := hb11
       refine Zo Z Z Z (ow_indexRow (R := (RSlice RSpan)) Z Z Z hr45 Tryd.underlying23 (Tryd.sizeOf59 _) hx11 ?_)
       have lz12 := ((((hl41.trans hl42).trans hl43).trans hl44).trans hl45)
       refine lw_op0 Z Z (ow_storeElRow (X := No) (R := (RSlice RSpan)) (S := (RSlice RSpan)) Z Z Z Z hr45 (orow_blk hr45 hx11) hx11 (FldSet.whole (RSlice RSpan)) (Tryd.sizeOf59 _) (VRep.mono lz12 hv28) (Nat.le_refl _) hC45 fun w46 ho40 hb21 hl46 hC46 => ?_)
       have ho41 := ho39.go hb21 (fun e => (orow_ne hr45 ho39 (by decide)) (by rw [orow_blk hr45 hx11]; exact congrArg some e.symm))
       have ho42 := ho38.go hb21 (fun e => (orow_ne hr45 ho38 (by decide)) (by rw [orow_blk hr45 hx11]; exact congrArg some e.symm))
       have hr46 := hr44.go hb21 (fun k hk e => orow_row_ne hr44 hr45 (by decide) hk (by rw [orow_blk hr45 hx11]; exact congrArg some e.symm)) hl46 (fun _ h => h)
       refine Zn (Ze (Zr (Zo Z Z Z (Zm Z Z (Zo Z Z Z (ow_loadOwnA Z Z Z ho42 (Tryd.isAgg25 _) (Tryd.sizeOf25 _) Z ?_))))))
       have hw6 := ho40.freezeDel
       have hC47 := ho40.cxDel hC46 (fun _ e => e.elim) hO
       have hl47 := Le.del w46 (Add g2 M4) (.slice A3 x10.length c3)
       have hm6 : (Del (.slice A3 x10.length c3) (Add g2 M4)) g1 := ⟨hm4, fun e => (orow_ne ho40 ho41 (by decide)) e⟩
       have hr47 := hr46.goDel ho40 (by decide)
       have hw7 : VRep RBox w46 (Del (.slice A3 x10.length c3) (Add g2 M4)) ({ Sides := (List.set x10 (k1 : Int).toNat x8) } : Box) (.agg #[(.slice A3 x10.length c3)]) := shut_Box hw6
       refine Zo Z Z Z (ow_buildSlice (R := RBox) (xs := [({ Sides := (List.set x10 (k1 : Int).toNat x8) } : Box)]) (cs := #[(.slice A3 x10.length c3)]) (e := 25) Z Z (by kernel_rfl) Z Z ⟨_, _, Z, hw7.cells, Z⟩ hC47 fun p19 w47 hw8 hb22 hl48 hC48 => ?_)
       have ho43 := ho41.no hb22
       have hr48 := hr47.no hb22
       replace hb11 := bind_some hb11
       obtain ⟨z2, hz2, hb11⟩ := hb11
       refine Zo Z Z Z (ow_append (R := RBox) Z Z Z Z Tryd.underlying28 hi25 hz25 hs25 hy25 Z Z Z Z hr48 hw8 hz2 hC48 fun v41 w48 M5 hr49 hb23 hl49 hC49 hM3 hat3 => ?_)
       have hn5 : v41.ownBlock ≠ some g1 := nb_app hn2 hat3 ho43
       have ho45 := ho43.go hb23 (fun e => hn2 e)
       have hm8 := hM3 _ hm6
       refine Zo Z Z Z (Za Z Z (Zn (Ze (cw_seq (Zr (Zo Z Z Z (Zf Z Z Tryd.underlying25 Z (Tryd.sizeOf23 _) (Zo Z Z Z (ow_loadOwn1 Z Z Z ho45 (Tryd.isAgg23 _) Z ?_)))))))))
       have lz13 := (((((((lz10.trans hl43).trans hl44).trans hl45).trans hl46).trans hl47).trans hl48).trans hl49)
       have lz14 := (((((((lz11.trans hl43).trans hl44).trans hl45).trans hl46).trans hl47).trans hl48).trans hl49)
       refine Zo Z Z Z (Zk Z Z Tryd.call71 (wo_spec_l1OwnRowsSpan (hG.mono lz14) hC49.old (VRep.mono lz13 hw5) hx10) fun v42 w49 hv42 => ?_)
       obtain ⟨⟨M6, hr50, hk2⟩, hb24⟩ := hv42
       replace hr50 := hr50.base hC49.bx.size
       have hl50 := hk2.le
       have hC50 := hC49.trans hk2
       have ho47 := ho45.no hb24
       have hm10 := hk2.sup _ hm8
       have hr51 := hr49.go hb24 (fun _ _ e => e) hl50 hk2.sup
       obtain ⟨A4, c4, rfl⟩ := hr50.len
       refine Zo Z Z Z (ow_build (v := .agg #[(.slice A4 x10.length c4)]) Z Z (by kernel_rfl) (Zo Z Z Z (ow_alloc Z (Tryd.zeroValue25 _) hC50 fun g3 w50 hg5 hg6 ho49 hb25 hl51 hC51 => ?_)))
       have hn7 := Nat.ne_of_lt (Nat.lt_of_lt_of_le ho47.lt hg5)
       have ho50 := ho47.no hb25
       have hm12 : (Add g3 M6) g1 := .inr hm10
       have hn9 := nb_fresh hr51 hg5
       have hr52 := hr51.add hb25 hg5
       have hr53 := hr50.add hb25 hg5
       have hm14 : (Add g3 M6) g3 := .inl Z
       refine lw_op0 Z Z (ow_store (X := No) (us := [(.slice A4 x10.length c4)]) (cs' := #[(.slice A4 x10.length c4)]) Z Z Z Z ho49 (Tryd.sizeOf25 _) Z Z Z Z hm14 (.inl hg6) Z hC51 fun w51 ho52 hb26 hl52 hC52 => ?_)
       have ho53 := ho50.go hb26 (fun e => hn7 e)
       have hr54 := hr52.go hb26 (fun k hk e => hn9 (hk.trans (congrArg some e))) hl52 (fun _ h => h)
       have hr55 := hr53.go hb26 (fun k hk e => (orow_ne hr53 ho49 (by decide)) (hk.trans (congrArg some e))) hl52 (fun _ h => h)
       refine Zn (Ze (cw_seq (Zr (Zo Z Z Z (Zf Z Z Tryd.underlying25 Z (Tryd.sizeOf23 _) (Zo Z Z Z (ow_loadOwn1 Z Z Z ho52 (Tryd.isAgg23 _) Z (Zo Z Z Z (Zm Z Z (Zo Z Z Z (Zm Z Z (Zo Z Z Z (ow_indexRow (R := (RSlice RSpan)) Z Z Z hr55 Tryd.underlying23 (Tryd.sizeOf59 _) hx11 ?_)))))))))))))
       have lz15 := (((((((((hl43.trans hl44).trans hl45).trans hl46).trans hl47).trans hl48).trans hl49).trans hl50).trans hl51).trans hl52)
       refine lw_op0 Z Z (ow_storeElRow (X := No) (R := (RSlice RSpan)) (S := (RSlice RSpan)) Z Z Z Z hr55 (orow_blk hr55 hx11) hx11 (FldSet.whole (RSlice RSpan)) (Tryd.sizeOf59 _) (VRep.mono lz15 hv39) (Nat.le_refl _) hC52 fun w52 ho55 hb27 hl53 hC53 => ?_)
       have ho56 := ho53.go hb27 (fun e => (orow_ne hr55 ho53 (by decide)) (by rw [orow_blk hr55 hx11]; exact congrArg some e.symm))
       have ho58 := ho52.go hb27 (fun e => (orow_ne hr55 ho52 (by decide)) (by rw [orow_blk hr55 hx11]; exact congrArg some e.symm))
       have hr56 := hr54.go hb27 (fun k hk e => orow_row_ne hr54 hr55 (by decide) hk (by rw [orow_blk hr55 hx11]; exact congrArg some e.symm)) hl53 (fun _ h => h)
       refine Zn (Ze (Zr (Zo Z Z Z (ow_loadOwnA Z Z Z ho58 (Tryd.isAgg25 _) (Tryd.sizeOf25 _) Z ?_))))
       have hw9 := ho55.freezeDel
       have hC54 := ho55.cxDel hC53 (fun _ e => e.elim) hO
       have hl54 := Le.del w52 (Add g3 M6) (.slice A4 x10.length c4)
       have hm15 : (Del (.slice A4 x10.length c4) (Add g3 M6)) g1 := ⟨hm12, fun e => (orow_ne ho55 ho56 (by decide)) e⟩
       have hr57 := hr56.goDel ho55 (by decide)
       refine lw_op0 Z Z (ow_store (X := No) (us := [(.slice A4 x10.length c4)]) (cs' := #[(.slice A4 x10.length c4)]) Z Z Z Z ho56 (Tryd.sizeOf25 _) Z Z Z Z hm15 (.inl hg2) Z hC54 fun w53 ho59 hb28 hl55 hC55 => ?_)
       have hr58 := hr57.go hb28 (fun k hk e => hn5 (hk.trans (congrArg some e))) hl55 (fun _ h => h)
       refine Zn (ew_blockN (Ze (Zr (Zo Z Z Z (Zm Z Z (Zo Z Z Z (ow_add Z Z Z (Zo Z Z Z (Za Z Z (Zn ?_))))))))))
       have lz16 := (((((((((((((((((hl11.trans hl29).trans hl30).trans hl41).trans hl42).trans hl43).trans hl44).trans hl45).trans hl46).trans hl47).trans hl48).trans hl49).trans hl50).trans hl51).trans hl52).trans hl53).trans hl54).trans hl55)
       exact ew_nxt (z2, (W (k1 + 1)), (List.set x10 (k1 : Int).toNat x9)) hb11 fun a ha => ⟨(Del (.slice A4 x10.length c4) (Add g3 M6)), v41, (.slice A4 x10.length c4), (ha.sub ⟨Z, Z, Z, Z, trivial⟩), lz16, hC55, hr58, (VRep.mono hl55 hw9), ho59, hm15, hn5⟩
      ·
       obtain rfl := hbb2.trans hc4
       refine Zu Z (cw_skip (Ze (cw_seq (Zr (Zo Z Z Z (Zf Z Z Tryd.underlying25 Z (Tryd.sizeOf23 _) (Zo Z Z Z (ow_loadOwn1 Z Z Z ho34 (Tryd.isAgg23 _) Z ?_))))))))
       have lz17 := ((lz9.trans hl41).trans hl42)
       replace hb11 := bind_some hb11
       obtain ⟨x12, hx12, hb11⟩ := hb11
       have lz18 := ((lz7.trans hl41).trans hl42)
       refine Zo Z Z Z (Zk Z Z Tryd.call71 (wo_spec_l1OwnRowsSpan (hG.mono lz18) hC42.old (VRep.mono lz17 hw5) hx12) fun v43 w54 hv43 => ?_)
       obtain ⟨⟨M7, hr59, hk3⟩, hb29⟩ := hv43
       replace hr59 := hr59.base hC42.bx.size
       have hl56 := hk3.le
       have hC56 := hC42.trans hk3
       have ho62 := ho34.no hb29
       have hm18 := hk3.sup _ hm2
       have hr60 := hr39.go hb29 (fun _ _ e => e) hl56 hk3.sup
       obtain ⟨A5, c5, rfl⟩ := hr59.len
       refine Zo Z Z Z (ow_build (v := .agg #[(.slice A5 x12.length c5)]) Z Z (by kernel_rfl) (Zo Z Z Z (ow_alloc Z (Tryd.zeroValue25 _) hC56 fun g4 w55 hg7 hg8 ho63 hb30 hl57 hC57 => ?_)))
       have hn10 := Nat.ne_of_lt (Nat.lt_of_lt_of_le ho62.lt hg7)
       have ho64 := ho62.no hb30
       have hm19 : (Add g4 M7) g1 := .inr hm18
       have hn11 := nb_fresh hr60 hg7
       have hr61 := hr60.add hb30 hg7
       have hr62 := hr59.add hb30 hg7
       have hm20 : (Add g4 M7) g4 := .inl Z
       refine lw_op0 Z Z (ow_store (X := No) (us := [(.slice A5 x12.length c5)]) (cs' := #[(.slice A5 x12.length c5)]) Z Z Z Z ho63 (Tryd.sizeOf25 _) Z Z Z Z hm20 (.inl hg8) Z hC57 fun w56 ho65 hb31 hl58 hC58 => ?_)
       have ho66 := ho64.go hb31 (fun e => hn10 e)
       have hr63 := hr61.go hb31 (fun k hk e => hn11 (hk.trans (congrArg some e))) hl58 (fun _ h => h)
       have hr64 := hr62.go hb31 (fun k hk e => (orow_ne hr62 ho63 (by decide)) (hk.trans (congrArg some e))) hl58 (fun _ h => h)
       refine Zn (Ze (cw_seq (Zr (Zo Z Z Z (Zf Z Z Tryd.underlying25 Z (Tryd.sizeOf23 _) (Zo Z Z Z (ow_loadOwn1 Z Z Z ho65 (Tryd.isAgg23 _) Z (Zo Z Z Z (Zm Z Z (Zo Z Z Z (Zm Z Z ?_)))))))))))
       replace hb11 := bind_some hb11
       obtain ⟨x13, hx13, hb11⟩ := hb11
       refine Zo Z Z Z (ow_indexRow (R := (RSlice RSpan)) Z Z Z hr64 Tryd.underlying23 (Tryd.sizeOf59 _) hx13 ?_)
       have lz19 := ((hl56.trans hl57).trans hl58)
       refine lw_op0 Z Z (ow_storeElRow (X := No) (R := (RSlice RSpan)) (S := (RSlice RSpan)) Z Z Z Z hr64 (orow_blk hr64 hx13) hx13 (FldSet.whole (RSlice RSpan)) (Tryd.sizeOf59 _) (VRep.mono lz19 hv39) (Nat.le_refl _) hC58 fun w57 ho67 hb32 hl59 hC59 => ?_)
       have ho68 := ho66.go hb32 (fun e => (orow_ne hr64 ho66 (by decide)) (by rw [orow_blk hr64 hx13]; exact congrArg some e.symm))
       have ho69 := ho65.go hb32 (fun e => (orow_ne hr64 ho65 (by decide)) (by rw [orow_blk hr64 hx13]; exact congrArg some e.symm))
       have hr65 := hr63.go hb32 (fun k hk e => orow_row_ne hr63 hr64 (by decide) hk (by rw [orow_blk hr64 hx13]; exact congrArg some e.symm)) hl59 (fun _ h => h)
       refine Zn (Ze (Zr (Zo Z Z Z (ow_loadOwnA Z Z Z ho69 (Tryd.isAgg25 _) (Tryd.sizeOf25 _) Z ?_))))
       have hw11 := ho67.freezeDel
       have hC60 := ho67.cxDel hC59 (fun _ e => e.elim) hO
       have hl60 := Le.del w57 (Add g4 M7) (.slice A5 x12.length c5)
       have hm21 : (Del (.slice A5 x12.length c5) (Add g4 M7)) g1 := ⟨hm19, fun e => (orow_ne ho67 ho68 (by decide)) e⟩
       have hr66 := hr65.goDel ho67 (by decide)
       refine lw_op0 Z Z (ow_store (X := No) (us := [(.slice A5 x12.length c5)]) (cs' := #[(.slice A5 x12.length c5)]) Z Z Z Z ho68 (Tryd.sizeOf25 _) Z Z Z Z hm21 (.inl hg2) Z hC60 fun w58 ho70 hb33 hl61 hC61 => ?_)
       have hr67 := hr66.go hb33 (fun k hk e => hn2 (hk.trans (congrArg some e))) hl61 (fun _ h => h)
       refine Zn (ew_blockN (Ze (Zr (Zo Z Z Z (Zm Z Z (Zo Z Z Z (ow_add Z Z Z (Zo Z Z Z (Za Z Z (Zn ?_))))))))))
       have lz20 := ((((((((((hl11.trans hl29).trans hl30).trans hl41).trans hl42).trans hl56).trans hl57).trans hl58).trans hl59).trans hl60).trans hl61)
       exact ew_nxt (y1, (W (k1 + 1)), (List.set x12 (k1 : Int).toNat x9)) hb11 fun a ha => ⟨(Del (.slice A5 x12.length c5) (Add g4 M7)), v10, (.slice A5 x12.length c5), (ha.sub ⟨Z, Z, Z, Z, trivial⟩), lz20, hC61, hr67, (VRep.mono hl61 hw11), ho70, hm21, hn2⟩
   ·
    obtain rfl := hbb1.trans hc3
    exact Zu Z (cw_exit (ew_thenX (ew_thenX (ew_blockX (ew_brk (y1, k1, y2) hb11 fun a ha => ⟨M3, v10, v12, (ha.sub ⟨Z, Z, Z, Z, trivial⟩), hl11, hC11, hw4, hw5, ho3, hm2, hn2⟩)))))
  ·
   rintro ⟨y3, k2, y4⟩ a w59 hlr2 ⟨M8, v44, v46, hF2, hl62, hC62, hw13, hw14, ho72, hm23, hn12⟩
   subst hlr2
   refine ew_at (E := [(3, (.pointer (some p2))), (5, v44), (6, (.pointer (some ⟨g1, 0, none⟩))), (7, (.int .i64 k2))]) hF2 (Ze (cw_seq (Zr (Zo Z Z Z (Zm Z Z (Zo Z Z Z (Za Z Z (Zn (Ze (Zy ?_))))))))))
   obtain rfl := sj h
   exact ew_ret (res1 Z (.tmp Z)) ⟨_, Z, (hw13.freezeBack hC62 hO), hC62.bx⟩

theorem w_spec_l11Less {w : World} {M : Nat → Prop} (hG : ARep (RArr 4 RShape) w M shapes ⟨0, 0, none⟩) (hO : ∀ b, M b → b < w.heap.size) {v0p : Value} {a_b : Box} (h0 : VRep RBox w M a_b v0p) {v1p : Value} {a_list : List Box} (h1 : VRep (RSlice RBox) w M a_list v1p) {r : (List Box) × Bool} (h : F.spec_l11Less a_b a_list = some r) :
  Calls Tryd.prog 53 [v0p, v1p].toArray w fun e w' => ∃ v, e = .returned v ∧ (∃ u0 u1, v = .tuple #[u0, u1] ∧ VRep (RSlice RBox) w' M r.1 u0 ∧ VRep RBool w' M r.2 u1) ∧ BX No w w' := by
 obtain ⟨i25, hi25, hz25, hs25, hy25⟩ := info25
 have hC : Cx No w M w M := Cx.start hO (fun _ e => e.elim)
 refine walk (N := 48) Tryd.func53 Z Tryd.ntmps53 Z (cw_seq (Zr (Zo Z Z Z (ow_box (R := RBox) Z Z h0 hC fun p1 w1 hp1 hb1 hl1 hC1 => Zo Z Z Z (Za Z Z (Zo Z Z Z (Za Z Z (Zn (Ze (cw_seq (Zr (Zo Z Z Z (ow_buildSlice0 (R := RBox) (e := 25) Z (by kernel_rfl) hC1 fun p2 w2 M1 hr1 hb2 hl2 hC2 hM1 hat1 => Zo Z Z Z (Za Z Z (Zn (Ze (cw_seq (cw_seq (Zr (Zo Z Z Z (Zl (R := RBox) Z Z (ARep.mono hl2 hp1) (Tryd.sizeOf25 _) (Tryd.isAgg25 _) fun v1 hv1 => ?_)))))))))))))))))))))
 replace h := bind_some h
 obtain ⟨x1, hx1, h⟩ := h
 refine Zo Z Z Z (Zk Z Z Tryd.call72 (w_spec_l10Empty (hG.mono (hl1.trans hl2)) hC2.old hv1 hx1) fun v2 w3 hv2 => ?_)
 obtain ⟨hv2, hb3⟩ := hv2
 have hl3 := Le.no M1 hb3
 have hC3 := hC2.no hb3
 have hr2 := hr1.no hb3
 obtain rfl := vbool_eq hv2
 refine Zo Z Z Z (ow_not Z Z (Zn (Ze ?_)))
 replace h := Zc h
 rcases h with ⟨hc1, h⟩ | ⟨hc1, h⟩
 ·
  subst hc1
  refine Zu Z (cw_skip (Ze (cw_seq (cw_seq (Zr (Zo Z Z Z (Za Z Z (Zn (Ze ?_)))))))))
  replace h := bind_some h
  obtain ⟨lr1, hlr1, h⟩ := h
  refine cw_for hlr1 (fun s a w' => ∃ (M' : Nat → Prop) (v0c : Value), Fits 48 [(1, v1p), (6, v0c), (7, (.int .i64 s.2))] a ∧ Le w3 M1 w' M' ∧ Cx No w M w' M' ∧ VRep (RSlice RBox) w' M' s.1 v0c) ?_ ?_ ?_
  ·
   intro a ha
   exact ⟨M1, (.slice (some p2) 0 0), ha.sub ⟨Z, Z, Z, trivial⟩, Le.refl _ _, hC3, vslice_nil⟩
  ·
   rintro ⟨y1, k1⟩ a w4 sr1 ⟨M2, v3, hF1, hl4, hC4, hw1⟩ hb4 hR1
   refine cw_at (E := [(1, v1p), (6, v3), (7, (.int .i64 k1))]) hF1 (cw_seq (cw_seq (Zr (Zo Z Z Z (Zm Z Z (Zo Z Z Z (Zm Z Z ?_)))))))
   have lz1 := (((hl1.trans hl2).trans hl3).trans hl4)
   refine Zo Z Z Z (ow_len Z Z (VRep.mono lz1 h1) Tryd.underlying28 Z (Zo Z Z Z (ow_lss Z Z Z fun bb1 hbb1 => Zn (Ze ?_))))
   replace hb4 := Zc hb4
   rcases hb4 with ⟨hc2, hb4⟩ | ⟨hc2, hb4⟩
   ·
    obtain rfl := hbb1.trans hc2
    refine Zt Z (cw_skip (Ze (cw_seq (cw_block (cw_seq (Zr (Zo Z Z Z (ow_buildSlice0 (R := RBox) (e := 25) Z (by kernel_rfl) hC4 fun p3 w5 M3 hr3 hb5 hl5 hC5 hM2 hat2 => Zo Z Z Z (Za Z Z (Zn (Ze (cw_seq (cw_seq (Zr (Zo Z Z Z (Za Z Z (Zn (Ze ?_))))))))))))))))))
    replace hb4 := bind_some hb4
    obtain ⟨lr2, hlr2, hb4⟩ := hb4
    refine cw_for hlr2 (fun s a w' => ∃ (M' : Nat → Prop) (v0c : Value), Fits 48 [(1, v1p), (6, v3), (7, (.int .i64 k1)), (8, v0c), (9, (.int .i64 s.2))] a ∧ Le w5 M3 w' M' ∧ Cx No w M w' M' ∧ OwnRow RBox w.heap.size 25 w' M' s.1 v0c) ?_ ?_ ?_
    ·
     intro a ha
     exact ⟨M3, (.slice (some p3) 0 0), ha.sub ⟨Z, Z, Z, Z, Z, trivial⟩, Le.refl _ _, hC5, hr3⟩
    ·
     rintro ⟨y2, k2⟩ a w6 sr2 ⟨M4, v5, hF2, hl6, hC6, hw2⟩ hb6 hR2
     refine cw_at (E := [(1, v1p), (6, v3), (7, (.int .i64 k1)), (8, v5), (9, (.int .i64 k2))]) hF2 (cw_seq (cw_seq (Zr (Zo Z Z Z (Zm Z Z (Zo Z Z Z (Zm Z Z (Zo Z Z Z (ow_len Z Z (VRep.mono (hl5.trans hl6) hw1) Tryd.underlying28 Z (Zo Z Z Z (ow_lss Z Z Z fun bb2 hbb2 => Zn (Ze ?_))))))))))))
     replace hb6 := Zc hb6
     rcases hb6 with ⟨hc3, hb6⟩ | ⟨hc3, hb6⟩
     ·
      obtain rfl := hbb2.trans hc3
      refine Zt Z (cw_skip (Ze (cw_seq (cw_block ?_))))
      replace hb6 := bind_some hb6
      obtain ⟨x2, hx2, hb6⟩ := hb6
      replace hb6 := bind_some hb6
      obtain ⟨x3, hx3, hb6⟩ := hb6
      replace hb6 := bind_some hb6
      obtain ⟨x4, hx4, hb6⟩ := hb6
      have lz2 := ((lz1.trans hl5).trans hl6)
      have lz3 := (hl5.trans hl6)
      refine cw_sub (E' := [(1, v1p), (6, v3), (7, (.int .i64 k1)), (8, v5), (9, (.int .i64 k2))]) ⟨Z, Z, Z, Z, Z, trivial⟩ (cw_drawQ 10 [PEq v5, PV (RSlice RBox) M4 y1, PEq (.int .i64 k2), PA RBox M4 x2, PV RBox M4 x2, PV (RSlice RBox) M4 a_list, PEq (.int .i64 k1), PA RBox M4 x3, PV RBox M4 x3, PV (RSlice RBox) M4 x4] (by kernel_rfl) Z (by kernel_rfl) ⟨Zq, PV.mono _ _ _, Zq, PA.mono _ _ _, PV.mono _ _ _, PV.mono _ _ _, Zq, PA.mono _ _ _, PV.mono _ _ _, PV.mono _ _ _, trivial⟩ ⟨?_, ?_, ?_, ?_, ?_, ?_, ?_, ?_, ?_, ?_, trivial⟩ ?_)
      ·
       intro w8 D hS1 hd1
       exact Zs (E' := [(8, v5)]) ⟨Z, trivial⟩ (Zp Z (Zm Z Z Zb))
      ·
       intro w9 D hS2 hd2
       have hl9 := Le.no M4 hS2
       exact Zs (E' := [(6, v3)]) ⟨Z, trivial⟩ (Zp Z (Zm Z Z ⟨BX.refl _ _, (VRep.mono (lz3.trans hl9) hw1)⟩))
      ·
       intro w10 D hS3 hd3
       exact Zs (E' := [(9, (.int .i64 k2))]) ⟨Z, trivial⟩ (Zp Z (Zm Z Z Zb))
      ·
       intro w11 D hS4 hd4
       have d1 : PV (RSlice RBox) M4 y1 (D 1) w11 := dpA hd4 1 Z
       generalize hq1 : (D 1) = v10 at d1
       exact Zs (E' := [(32, v10), (33, (.int .i64 k2))]) ⟨(congrArg some hq1), (dpE hd4 2 Z Z), trivial⟩ (Zp Z (Zx (R := RBox) Z Z Z d1 Tryd.underlying28 (Tryd.sizeOf25 _) hx2 fun p6 hp6 => ⟨BX.refl _ _, ⟨_, Z, hp6⟩⟩))
      ·
       intro w12 D hS5 hd5
       have d3 : PA RBox M4 x2 (D 3) w12 := dpA hd5 3 Z
       obtain ⟨p7, e1, ha1⟩ := d3
       exact Zs (E' := [(34, (.pointer (some p7)))]) ⟨(congrArg some e1), trivial⟩ (Zp Z (Zl (R := RBox) Z Z ha1 (Tryd.sizeOf25 _) (Tryd.isAgg25 _) fun v11 hv11 => ⟨BX.refl _ _, hv11⟩))
      ·
       intro w13 D hS6 hd6
       have hl13 := Le.no M4 hS6
       exact Zs (E' := [(1, v1p)]) ⟨Z, trivial⟩ (Zp Z (Zm Z Z ⟨BX.refl _ _, (VRep.mono (lz2.trans hl13) h1)⟩))
      ·
       intro w14 D hS7 hd7
       exact Zs (E' := [(7, (.int .i64 k1))]) ⟨Z, trivial⟩ (Zp Z (Zm Z Z Zb))
      ·
       intro w15 D hS8 hd8
       have d4 : PV (RSlice RBox) M4 a_list (D 5) w15 := dpA hd8 5 Z
       generalize hq2 : (D 5) = v12 at d4
       exact Zs (E' := [(36, v12), (37, (.int .i64 k1))]) ⟨(congrArg some hq2), (dpE hd8 6 Z Z), trivial⟩ (Zp Z (Zx (R := RBox) Z Z Z d4 Tryd.underlying28 (Tryd.sizeOf25 _) hx3 fun p8 hp8 => ⟨BX.refl _ _, ⟨_, Z, hp8⟩⟩))
      ·
       intro w16 D hS9 hd9
       have d6 : PA RBox M4 x3 (D 7) w16 := dpA hd9 7 Z
       obtain ⟨p9, e2, ha2⟩ := d6
       exact Zs (E' := [(38, (.pointer (some p9)))]) ⟨(congrArg some e2), trivial⟩ (Zp Z (Zl (R := RBox) Z Z ha2 (Tryd.sizeOf25 _) (Tryd.isAgg25 _) fun v13 hv13 => ⟨BX.refl _ _, hv13⟩))
      ·
       intro w17 D hS10 hd10
       have hl17 := Le.no M4 hS10
       have hC17 := hC6.no hS10
       have d7 : PV RBox M4 x2 (D 4) w17 := dpA hd10 4 Z
       have d8 : PV RBox M4 x3 (D 8) w17 := dpA hd10 8 Z
       generalize hq3 : (D 4) = v14 at d7
       generalize hq4 : (D 8) = v15 at d8
       refine Zs (E' := [(35, v14), (39, v15)]) ⟨(congrArg some hq3), (congrArg some hq4), trivial⟩ (Zp Z (Zk Z Z Tryd.call37 (w_spec_l11Cut (hG.mono (lz2.trans hl17)) hC17.old d7 d8 hx4) fun v16 w18 hv16 => ?_))
       obtain ⟨hv16, hb8⟩ := hv16
       exact ⟨hb8, hv16⟩
      ·
       intro w19 D hS11 hd11
       have d18 : PV (RSlice RBox) M4 x4 (D 9) w19 := dpA hd11 9 Z
       have hl19 := Le.no M4 hS11
       have hC19 := hC6.no hS11
       have hr16 := hw2.no hS11
       generalize hq5 : (D 9) = v17 at d18
       refine lw_sub (E' := [(31, v5), (40, v17), (1, v1p), (6, v3), (7, (.int .i64 k1)), (8, v5), (9, (.int .i64 k2))]) ⟨(dpE hd11 0 Z Z), (congrArg some hq5), Z, Z, Z, Z, Z, trivial⟩ ?_
       replace hb6 := bind_some hb6
       obtain ⟨z1, hz1, hb6⟩ := hb6
       refine Zo Z Z Z (ow_append (R := RBox) Z Z Z Z Tryd.underlying28 hi25 hz25 hs25 hy25 Z Z Z Z hr16 d18 hz1 hC19 fun v18 w20 M5 hr17 hb9 hl20 hC20 hM3 hat3 => Zo Z Z Z (Za Z Z (Zn (ew_blockN (Ze (Zr (Zo Z Z Z (Zm Z Z (Zo Z Z Z (ow_add Z Z Z (Zo Z Z Z (Za Z Z (Zn ?_)))))))))))))
       have lz4 := ((hl6.trans hl19).trans hl20)
       exact ew_nxt (z1, (W (k2 + 1))) hb6 fun a ha => ⟨M5, v18, (ha.sub ⟨Z, Z, Z, Z, Z, trivial⟩), lz4, hC20, hr17⟩
     ·
      obtain rfl := hbb2.trans hc3
      exact Zu Z (cw_exit (ew_thenX (ew_thenX (ew_blockX (ew_brk (y2, k2) hb6 fun a ha => ⟨M4, v5, (ha.sub ⟨Z, Z, Z, Z, Z, trivial⟩), hl6, hC6, hw2⟩)))))
    ·
     rintro ⟨y3, k3⟩ a w21 hlr3 ⟨M6, v19, hF3, hl21, hC21, hw3⟩
     subst hlr3
     refine ew_at (E := [(1, v1p), (6, v3), (7, (.int .i64 k1)), (8, v19), (9, (.int .i64 k3))]) hF3 (Ze (cw_seq (cw_seq (Zr (Zo Z Z Z (Zm Z Z ?_))))))
     have hw4 := hw3.freezeDel
     have hC22 := hw3.cxDel hC21 (fun _ e => e.elim) hO
     have hl22 := Le.del w21 M6 v19
     replace hb4 := bind_some hb4
     obtain ⟨x5, hx5, hb4⟩ := hb4
     have lz5 := (((lz1.trans hl5).trans hl21).trans hl22)
     refine Zo Z Z Z (Zk Z Z Tryd.call52 (w_spec_RegionValid (hG.mono lz5) hC22.old hw4 hx5) fun v21 w22 hv21 => ?_)
     obtain ⟨hv21, hb10⟩ := hv21
     have hl23 := Le.no (Del v19 M6) hb10
     have hC23 := hC22.no hb10
     obtain rfl := vbool_eq hv21
     refine Zo Z Z Z (ow_not Z Z (Zn (Ze ?_)))
     replace hb4 := Zc hb4
     rcases hb4 with ⟨hc4, hb4⟩ | ⟨hc4, hb4⟩
     ·
      subst hc4
      refine Zu Z (cw_skip (Ze (Zr (Zo Z Z Z (Zm Z Z (Zo Z Z Z (Za Z Z (Zn (ew_blockN (Ze (Zr (Zo Z Z Z (Zm Z Z (Zo Z Z Z (ow_add Z Z Z (Zo Z Z Z (Za Z Z (Zn ?_))))))))))))))))))
      have lz6 := ((((hl4.trans hl5).trans hl21).trans hl22).trans hl23)
      exact ew_nxt (y3, (W (k1 + 1))) hb4 fun a ha => ⟨(Del v19 M6), v19, (ha.sub ⟨Z, Z, Z, trivial⟩), lz6, hC23, (VRep.mono hl23 hw4)⟩
     ·
      subst hc4
      refine Zt Z (cw_seq (Zr (Zo Z Z Z (ow_buildSlice0I (R := RBox) (e := 25) Z (by kernel_rfl) hC23 fun p10 w23 hw5 hb11 hl24 hC24 => Zo Z Z Z (Za Z Z (Zo Z Z Z (Za Z Z (Zn (Ze (Zy (Zh (ew_blockR (Zh (Zh (ew_blockR (ew_brkR (Zh ?_)))))))))))))))))
      have e3 := hR1 _ (sj hb4).symm
      subst e3
      obtain rfl := sj h
      exact ew_ret (res2 Z (.tmp Z) (.tmp Z)) ⟨_, Z, ⟨_, _, Z, (VRep.mono hC24.back hw5), ((vbool _))⟩, hC24.bx⟩
   ·
    obtain rfl := hbb1.trans hc2
    exact Zu Z (cw_exit (ew_thenX (ew_thenX (ew_blockX (ew_brk (y1, k1) hb4 fun a ha => ⟨M2, v3, (ha.sub ⟨Z, Z, Z, trivial⟩), hl4, hC4, hw1⟩)))))
  ·
   rintro ⟨y4, k4⟩ a w24 hlr4 ⟨M7, v22, hF4, hl25, hC25, hw6⟩
   subst hlr4
   refine ew_at (E := [(1, v1p), (6, v22), (7, (.int .i64 k4))]) hF4 (Ze (cw_seq (Zr (Zo Z Z Z (Zm Z Z (Zo Z Z Z (Za Z Z (Zo Z Z Z (Za Z Z (Zn (Ze (Zy ?_))))))))))))
   obtain rfl := sj h
   exact ew_ret (res2 Z (.tmp Z) (.tmp Z)) ⟨_, Z, ⟨_, _, Z, (VRep.mono hC25.back hw6), ((vbool _))⟩, hC25.bx⟩
 ·
  subst hc1
  refine Zt Z (Zr (Zo Z Z Z (Zm Z Z (Zo Z Z Z (Zl (R := RBox) Z Z (ARep.mono (hl2.trans hl3) hp1) (Tryd.sizeOf25 _) (Tryd.isAgg25 _) fun v24 hv24 => ?_)))))
  obtain ⟨A1, c1, rfl, hw7⟩ := open_Box hv24
  refine Zo Z Z Z (ow_buildSlice (R := RBox) (xs := [a_b]) (cs := #[(.slice A1 a_b.Sides.length c1)]) (e := 25) Z Z (by kernel_rfl) Z Z ⟨_, _, Z, hv24.cells, Z⟩ hC3 fun p11 w25 hw8 hb12 hl26 hC26 => ?_)
  have hr18 := hr2.no hb12
  replace h := bind_some h
  obtain ⟨z2, hz2, h⟩ := h
  refine Zo Z Z Z (ow_append (R := RBox) Z Z Z Z Tryd.underlying28 hi25 hz25 hs25 hy25 Z Z Z Z hr18 hw8 hz2 hC26 fun v25 w26 M8 hr19 hb13 hl27 hC27 hM4 hat4 => Zo Z Z Z (Za Z Z (Zn (Ze (cw_seq (cw_seq (Zr (Zo Z Z Z (Za Z Z (Zn (Ze ?_)))))))))))
  have hw9 := hr19.freezeDel
  have hC28 := hr19.cxDel hC27 (fun _ e => e.elim) hO
  have hl28 := Le.del w26 M8 v25
  replace h := bind_some h
  obtain ⟨lr3, hlr5, h⟩ := h
  refine cw_for hlr5 (fun s a w' => ∃ (M' : Nat → Prop) (v0c : Value), Fits 48 [(1, v1p), (6, v0c), (7, (.int .i64 s.2))] a ∧ Le w26 (Del v25 M8) w' M' ∧ Cx No w M w' M' ∧ VRep (RSlice RBox) w' M' s.1 v0c) ?_ ?_ ?_
  ·
   intro a ha
   exact ⟨(Del v25 M8), v25, ha.sub ⟨Z, Z, Z, trivial⟩, Le.refl _ _, hC28, hw9⟩
  ·
   rintro ⟨y5, k5⟩ a w27 sr3 ⟨M9, v26, hF5, hl29, hC29, hw10⟩ hb14 hR3
   refine cw_at (E := [(1, v1p), (6, v26), (7, (.int .i64 k5))]) hF5 (cw_seq (cw_seq (Zr (Zo Z Z Z (Zm Z Z (Zo Z Z Z (Zm Z Z ?_)))))))
   have lz7 := ((((((hl1.trans hl2).trans hl3).trans hl26).trans hl27).trans hl28).trans hl29)
   refine Zo Z Z Z (ow_len Z Z (VRep.mono lz7 h1) Tryd.underlying28 Z (Zo Z Z Z (ow_lss Z Z Z fun bb3 hbb3 => Zn (Ze ?_))))
   replace hb14 := Zc hb14
   rcases hb14 with ⟨hc5, hb14⟩ | ⟨hc5, hb14⟩
   ·
    obtain rfl := hbb3.trans hc5
    refine Zt Z (cw_skip (Ze (cw_seq (cw_block (cw_seq (Zr (Zo Z Z Z (ow_buildSlice0 (R := RBox) (e := 25) Z (by kernel_rfl) hC29 fun p12 w28 M10 hr20 hb15 hl30 hC30 hM5 hat5 => Zo Z Z Z (Za Z Z (Zn (Ze (cw_seq (cw_seq (Zr (Zo Z Z Z (Za Z Z (Zn (Ze ?_))))))))))))))))))
    replace hb14 := bind_some hb14
    obtain ⟨lr4, hlr6, hb14⟩ := hb14
    refine cw_for hlr6 (fun s a w' => ∃ (M' : Nat → Prop) (v0c : Value), Fits 48 [(1, v1p), (6, v26), (7, (.int .i64 k5)), (8, v0c), (9, (.int .i64 s.2))] a ∧ Le w28 M10 w' M' ∧ Cx No w M w' M' ∧ OwnRow RBox w.heap.size 25 w' M' s.1 v0c) ?_ ?_ ?_
    ·
     intro a ha
     exact ⟨M10, (.slice (some p12) 0 0), ha.sub ⟨Z, Z, Z, Z, Z, trivial⟩, Le.refl _ _, hC30, hr20⟩
    ·
     rintro ⟨y6, k6⟩ a w29 sr4 ⟨M11, v28, hF6, hl31, hC31, hw11⟩ hb16 hR4
     refine cw_at (E := [(1, v1p), (6, v26), (7, (.int .i64 k5)), (8, v28), (9, (.int .i64 k6))]) hF6 (cw_seq (cw_seq (Zr (Zo Z Z Z (Zm Z Z (Zo Z Z Z (Zm Z Z (Zo Z Z Z (ow_len Z Z (VRep.mono (hl30.trans hl31) hw10) Tryd.underlying28 Z (Zo Z Z Z (ow_lss Z Z Z fun bb4 hbb4 => Zn (Ze ?_))))))))))))
     replace hb16 := Zc hb16
     rcases hb16 with ⟨hc6, hb16⟩ | ⟨hc6, hb16⟩
     ·
      obtain rfl := hbb4.trans hc6
      refine Zt Z (cw_skip (Ze (cw_seq (cw_block ?_))))
      replace hb16 := bind_some hb16
      obtain ⟨x6, hx6, hb16⟩ := hb16
      replace hb16 := bind_some hb16
      obtain ⟨x7, hx7, hb16⟩ := hb16
      replace hb16 := bind_some hb16
      obtain ⟨x8, hx8, hb16⟩ := hb16
      have lz8 := ((lz7.trans hl30).trans hl31)
      have lz9 := (hl30.trans hl31)
      refine cw_sub (E' := [(1, v1p), (6, v26), (7, (.int .i64 k5)), (8, v28), (9, (.int .i64 k6))]) ⟨Z, Z, Z, Z, Z, trivial⟩ (cw_drawQ 10 [PEq v28, PV (RSlice RBox) M11 y5, PEq (.int .i64 k6), PA RBox M11 x6, PV RBox M11 x6, PV (RSlice RBox) M11 a_list, PEq (.int .i64 k5), PA RBox M11 x7, PV RBox M11 x7, PV (RSlice RBox) M11 x8] (by kernel_rfl) Z (by kernel_rfl) ⟨Zq, PV.mono _ _ _, Zq, PA.mono _ _ _, PV.mono _ _ _, PV.mono _ _ _, Zq, PA.mono _ _ _, PV.mono _ _ _, PV.mono _ _ _, trivial⟩ ⟨?_, ?_, ?_, ?_, ?_, ?_, ?_, ?_, ?_, ?_, trivial⟩ ?_)
      ·
       intro w31 D hS12 hd12
       exact Zs (E' := [(8, v28)]) ⟨Z, trivial⟩ (Zp Z (Zm Z Z Zb))
      ·
       intro w32 D hS13 hd13
       have hl34 := Le.no M11 hS13
       exact Zs (E' := [(6, v26)]) ⟨Z, trivial⟩ (Zp Z (Zm Z Z ⟨BX.refl _ _, (VRep.mono (lz9.trans hl34) hw10)⟩))
      ·
       intro w33 D hS14 hd14
       exact Zs (E' := [(9, (.int .i64 k6))]) ⟨Z, trivial⟩ (Zp Z (Zm Z Z Zb))
      ·
       intro w34 D hS15 hd15
       have d19 : PV (RSlice RBox) M11 y5 (D 1) w34 := dpA hd15 1 Z
       generalize hq6 : (D 1) = v33 at d19
       exact Zs (E' := [(32, v33), (33, (.int .i64 k6))]) ⟨(congrArg some hq6), (dpE hd15 2 Z Z), trivial⟩ (Zp Z (Zx (R := RBox) Z Z Z d19 Tryd.underlying28 (Tryd.sizeOf25 _) hx6 fun p15 hp15 => ⟨BX.refl _ _, ⟨_, Z, hp15⟩⟩))
      ·
       intro w35 D hS16 hd16
       have d21 : PA RBox M11 x6 (D 3) w35 := dpA hd16 3 Z
       obtain ⟨p16, e4, ha3⟩ := d21
       exact Zs (E' := [(34, (.pointer (some p16)))]) ⟨(congrArg some e4), trivial⟩ (Zp Z (Zl (R := RBox) Z Z ha3 (Tryd.sizeOf25 _) (Tryd.isAgg25 _) fun v34 hv34 => ⟨BX.refl _ _, hv34⟩))
      ·
       intro w36 D hS17 hd17
       have hl38 := Le.no M11 hS17
       exact Zs (E' := [(1, v1p)]) ⟨Z, trivial⟩ (Zp Z (Zm Z Z ⟨BX.refl _ _, (VRep.mono (lz8.trans hl38) h1)⟩))
      ·
       intro w37 D hS18 hd18
       exact Zs (E' := [(7, (.int .i64 k5))]) ⟨Z, trivial⟩ (Zp Z (Zm Z Z Zb))
      ·
       intro w38 D hS19 hd19
       have d22 : PV (RSlice RBox) M11 a_list (D 5) w38 := dpA hd19 5 Z
       generalize hq7 : (D 5) = v35 at d22
       exact Zs (E' := [(36, v35), (37, (.int .i64 k5))]) ⟨(congrArg some hq7), (dpE hd19 6 Z Z), trivial⟩ (Zp Z (Zx (R := RBox) Z Z Z d22 Tryd.underlying28 (Tryd.sizeOf25 _) hx7 fun p17 hp17 => ⟨BX.refl _ _, ⟨_, Z, hp17⟩⟩))
      ·
       intro w39 D hS20 hd20
       have d24 : PA RBox M11 x7 (D 7) w39 := dpA hd20 7 Z
       obtain ⟨p18, e5, ha4⟩ := d24
       exact Zs (E' := [(38, (.pointer (some p18)))]) ⟨(congrArg some e5), trivial⟩ (Zp Z (Zl (R := RBox) Z Z ha4 (Tryd.sizeOf25 _) (Tryd.isAgg25 _) fun v36 hv36 => ⟨BX.refl _ _, hv36⟩))
      ·
       intro w40 D hS21 hd21
       have hl42 := Le.no M11 hS21
       have hC42 := hC31.no hS21
       have d25 : PV RBox M11 x6 (D 4) w40 := dpA hd21 4 Z
       have d26 : PV RBox M11 x7 (D 8) w40 := dpA hd21 8 Z
       generalize hq8 : (D 4) = v37 at d25
       generalize hq9 : (D 8) = v38 at d26
       refine Zs (E' := [(35, v37), (39, v38)]) ⟨(congrArg some hq8), (congrArg some hq9), trivial⟩ (Zp Z (Zk Z Z Tryd.call37 (w_spec_l11Cut (hG.mono (lz8.trans hl42)) hC42.old d25 d26 hx8) fun v39 w41 hv39 => ?_))
       obtain ⟨hv39, hb18⟩ := hv39
       exact ⟨hb18, hv39⟩
      ·
       intro w42 D hS22 hd22
       have d36 : PV (RSlice RBox) M11 x8 (D 9) w42 := dpA hd22 9 Z
       have hl44 := Le.no M11 hS22
       have hC44 := hC31.no hS22
       have hr33 := hw11.no hS22
       generalize hq10 : (D 9) = v40 at d36
       refine lw_sub (E' := [(31, v28), (40, v40), (1, v1p), (6, v26), (7, (.int .i64 k5)), (8, v28), (9, (.int .i64 k6))]) ⟨(dpE hd22 0 Z Z), (congrArg some hq10), Z, Z, Z, Z, Z, trivial⟩ ?_
       replace hb16 := bind_some hb16
       obtain ⟨z3, hz3, hb16⟩ := hb16
       refine Zo Z Z Z (ow_append (R := RBox) Z Z Z Z Tryd.underlying28 hi25 hz25 hs25 hy25 Z Z Z Z hr33 d36 hz3 hC44 fun v41 w43 M12 hr34 hb19 hl45 hC45 hM6 hat6 => Zo Z Z Z (Za Z Z (Zn (ew_blockN (Ze (Zr (Zo Z Z Z (Zm Z Z (Zo Z Z Z (ow_add Z Z Z (Zo Z Z Z (Za Z Z (Zn ?_)))))))))))))
       have lz10 := ((hl31.trans hl44).trans hl45)
       exact ew_nxt (z3, (W (k6 + 1))) hb16 fun a ha => ⟨M12, v41, (ha.sub ⟨Z, Z, Z, Z, Z, trivial⟩), lz10, hC45, hr34⟩
     ·
      obtain rfl := hbb4.trans hc6
      exact Zu Z (cw_exit (ew_thenX (ew_thenX (ew_blockX (ew_brk (y6, k6) hb16 fun a ha => ⟨M11, v28, (ha.sub ⟨Z, Z, Z, Z, Z, trivial⟩), hl31, hC31, hw11⟩)))))
    ·
     rintro ⟨y7, k7⟩ a w44 hlr7 ⟨M13, v42, hF7, hl46, hC46, hw12⟩
     subst hlr7
     refine ew_at (E := [(1, v1p), (6, v26), (7, (.int .i64 k5)), (8, v42), (9, (.int .i64 k7))]) hF7 (Ze (cw_seq (cw_seq (Zr (Zo Z Z Z (Zm Z Z ?_))))))
     have hw13 := hw12.freezeDel
     have hC47 := hw12.cxDel hC46 (fun _ e => e.elim) hO
     have hl47 := Le.del w44 M13 v42
     replace hb14 := bind_some hb14
     obtain ⟨x9, hx9, hb14⟩ := hb14
     have lz11 := (((lz7.trans hl30).trans hl46).trans hl47)
     refine Zo Z Z Z (Zk Z Z Tryd.call52 (w_spec_RegionValid (hG.mono lz11) hC47.old hw13 hx9) fun v44 w45 hv44 => ?_)
     obtain ⟨hv44, hb20⟩ := hv44
     have hl48 := Le.no (Del v42 M13) hb20
     have hC48 := hC47.no hb20
     obtain rfl := vbool_eq hv44
     refine Zo Z Z Z (ow_not Z Z (Zn (Ze ?_)))
     replace hb14 := Zc hb14
     rcases hb14 with ⟨hc7, hb14⟩ | ⟨hc7, hb14⟩
     ·
      subst hc7
      refine Zu Z (cw_skip (Ze (Zr (Zo Z Z Z (Zm Z Z (Zo Z Z Z (Za Z Z (Zn (ew_blockN (Ze (Zr (Zo Z Z Z (Zm Z Z (Zo Z Z Z (ow_add Z Z Z (Zo Z Z Z (Za Z Z (Zn ?_))))))))))))))))))
      have lz12 := ((((hl29.trans hl30).trans hl46).trans hl47).trans hl48)
      exact ew_nxt (y7, (W (k5 + 1))) hb14 fun a ha => ⟨(Del v42 M13), v42, (ha.sub ⟨Z, Z, Z, trivial⟩), lz12, hC48, (VRep.mono hl48 hw13)⟩
     ·
      subst hc7
      refine Zt Z (cw_seq (Zr (Zo Z Z Z (ow_buildSlice0I (R := RBox) (e := 25) Z (by kernel_rfl) hC48 fun p19 w46 hw14 hb21 hl49 hC49 => Zo Z Z Z (Za Z Z (Zo Z Z Z (Za Z Z (Zn (Ze (Zy (Zh (ew_blockR (Zh (Zh (ew_blockR (ew_brkR (Zh ?_)))))))))))))))))
      have e6 := hR3 _ (sj hb14).symm
      subst e6
      obtain rfl := sj h
      exact ew_ret (res2 Z (.tmp Z) (.tmp Z)) ⟨_, Z, ⟨_, _, Z, (VRep.mono hC49.back hw14), ((vbool _))⟩, hC49.bx⟩
   ·
    obtain rfl := hbb3.trans hc5
    exact Zu Z (cw_exit (ew_thenX (ew_thenX (ew_blockX (ew_brk (y5, k5) hb14 fun a ha => ⟨M9, v26, (ha.sub ⟨Z, Z, Z, trivial⟩), hl29, hC29, hw10⟩)))))
  ·
   rintro ⟨y8, k8⟩ a w47 hlr8 ⟨M14, v45, hF8, hl50, hC50, hw15⟩
   subst hlr8
   refine ew_at (E := [(1, v1p), (6, v45), (7, (.int .i64 k8))]) hF8 (Ze (cw_seq (Zr (Zo Z Z Z (Zm Z Z (Zo Z Z Z (Za Z Z (Zo Z Z Z (Za Z Z (Zn (Ze (Zy ?_))))))))))))
   obtain rfl := sj h
   exact ew_ret (res2 Z (.tmp Z) (.tmp Z)) ⟨_, Z, ⟨_, _, Z, (VRep.mono hC50.back hw15), ((vbool _))⟩, hC50.bx⟩

theorem w_spec_RegionLess {w : World} {M : Nat → Prop} (hG : ARep (RArr 4 RShape) w M shapes ⟨0, 0, none⟩) (hO : ∀ b, M b → b < w.heap.size) {v0p : Value} {a_b : Box} (h0 : VRep RBox w M a_b v0p) {v1p : Value} {a_list : List Box} (h1 : VRep (RSlice RBox) w M a_list v1p) {r : (List Box) × Bool} (h : F.spec_RegionLess a_b a_list = some r) :
  Calls Tryd.prog 21 [v0p, v1p].toArray w fun e w' => ∃ v, e = .returned v ∧ (∃ u0 u1, v = .tuple #[u0, u1] ∧ VRep (RSlice RBox) w' M r.1 u0 ∧ VRep RBool w' M r.2 u1) ∧ BX No w w' := by
 have hC : Cx No w M w M := Cx.start hO (fun _ e => e.elim)
 refine walk (N := 24) Tryd.func21 Z Tryd.ntmps21 Z (cw_seq (Zr ?_))
 obtain ⟨A1, c1, rfl, hw1⟩ := open_Box h0
 refine Zo Z Z Z (ow_boxOwn Z Z hC fun g1 w1 hg1 hg2 ho1 hb1 hl1 hC1 => ?_)
 have hm1 : (Add g1 M) g1 := .inl Z
 refine Zo Z Z Z (Za Z Z (Zo Z Z Z (Za Z Z (Zn (Ze (cw_seq (Zr (Zo Z Z Z (ow_loadOwnA Z Z Z ho1 (Tryd.isAgg25 _) (Tryd.sizeOf25 _) Z ?_)))))))))
 have hw2 : VRep RBox w1 (Add g1 M) ({ Sides := a_b.Sides } : Box) (.agg #[(.slice A1 a_b.Sides.length c1)]) := shut_Box (VRep.mono hl1 hw1)
 replace h := bind_some h
 obtain ⟨x1, hx1, h⟩ := h
 refine Zo Z Z Z (Zk Z Z Tryd.call36 (w_spec_l1OwnBox (hG.mono hl1) hC1.old hw2 hx1) fun v1 w2 hv1 => ?_)
 obtain ⟨hv1, hb2⟩ := hv1
 have hl2 := Le.no (Add g1 M) hb2
 have hC2 := hC1.no hb2
 have ho2 := ho1.no hb2
 obtain ⟨A2, c2, rfl, hw3⟩ := open_Box hv1
 refine lw_op0 Z Z (ow_store (X := No) (us := [(.slice A2 x1.Sides.length c2)]) (cs' := #[(.slice A2 x1.Sides.length c2)]) Z Z Z Z ho2 (Tryd.sizeOf25 _) Z Z Z Z hm1 (.inl hg2) Z hC2 fun w3 ho3 hb3 hl3 hC3 => Zn (Ze (cw_seq (Zr (Zo Z Z Z (Zm Z Z ?_))))))
 have lz1 := ((hl1.trans hl2).trans hl3)
 replace h := bind_some h
 obtain ⟨x2, hx2, h⟩ := h
 refine Zo Z Z Z (Zk Z Z Tryd.call51 (w_spec_l1OwnBoxList (hG.mono lz1) hC3.old (VRep.mono lz1 h1) hx2) fun v2 w4 hv2 => ?_)
 obtain ⟨hv2, hb4⟩ := hv2
 have hl4 := Le.no (Add g1 M) hb4
 have hC4 := hC3.no hb4
 have ho4 := ho3.no hb4
 refine Zo Z Z Z (Za Z Z (Zn (Ze (cw_seq (cw_seq (Zr (Zo Z Z Z (ow_loadOwnA Z Z Z ho4 (Tryd.isAgg25 _) (Tryd.sizeOf25 _) Z ?_))))))))
 have hw4 : VRep RBox w4 (Add g1 M) ({ Sides := x1.Sides } : Box) (.agg #[(.slice A2 x1.Sides.length c2)]) := shut_Box (VRep.mono (hl3.trans hl4) hw3)
 replace h := bind_some h
 obtain ⟨x3, hx3, h⟩ := h
 refine Zo Z Z Z (Zk Z Z Tryd.call12 (w_spec_BoxValid (hG.mono (lz1.trans hl4)) hC4.old hw4 hx3) fun v3 w5 hv3 => ?_)
 obtain ⟨hv3, hb5⟩ := hv3
 have hl5 := Le.no (Add g1 M) hb5
 have hC5 := hC4.no hb5
 have ho5 := ho4.no hb5
 obtain rfl := vbool_eq hv3
 refine Zo Z Z Z (ow_not Z Z (Zo Z Z Z (Zm Z Z ?_)))
 replace h := Zc h
 rcases h with ⟨hc1, h⟩ | ⟨hc1, h⟩
 ·
  subst hc1
  refine lw_on Z Z Z Z Z Z (Zm Z Z ?_)
  replace h := bind_some h
  obtain ⟨x4, hx4, h⟩ := h
  have lz2 := ((lz1.trans hl4).trans hl5)
  refine lw_on Z Z Z Z Z Z (Zk Z Z Tryd.call52 (w_spec_RegionValid (hG.mono lz2) hC5.old (VRep.mono hl5 hv2) hx4) fun v4 w6 hv4 => ?_)
  obtain ⟨hv4, hb6⟩ := hv4
  have hl6 := Le.no (Add g1 M) hb6
  have hC6 := hC5.no hb6
  have ho6 := ho5.no hb6
  obtain rfl := vbool_eq hv4
  refine lw_on Z Z Z Z Z Z (ow_not Z Z (Zo Z Z Z (ow_pickF Z Z Z (Zn (Ze ?_)))))
  replace h := Zc h
  rcases h with ⟨hc2, h⟩ | ⟨hc2, h⟩
  ·
   subst hc2
   refine Zu Z (cw_skip (Ze (cw_seq (Zr (Zo Z Z Z (ow_loadOwnA Z Z Z ho6 (Tryd.isAgg25 _) (Tryd.sizeOf25 _) Z ?_))))))
   have lz3 := (((hl3.trans hl4).trans hl5).trans hl6)
   have hw5 : VRep RBox w6 (Add g1 M) ({ Sides := x1.Sides } : Box) (.agg #[(.slice A2 x1.Sides.length c2)]) := shut_Box (VRep.mono lz3 hw3)
   refine Zo Z Z Z (Zm Z Z ?_)
   replace h := bind_some h
   obtain ⟨x5, hx5, h⟩ := h
   refine Zo Z Z Z (Zk Z Z Tryd.call53 (w_spec_l11Less (hG.mono (lz2.trans hl6)) hC6.old hw5 (VRep.mono (hl5.trans hl6) hv2) hx5) fun v5 w7 hv5 => ?_)
   obtain ⟨⟨v6, v7, rfl, hv6, hv7⟩, hb7⟩ := hv5
   have hC7 := hC6.no hb7
   obtain ⟨bb1, hbb1, rfl⟩ := vbool_ex hv7
   refine Zo Z Z Z (ow_extract Z Z Z (Zo Z Z Z (ow_extract Z Z Z (Zo Z Z Z (Za Z Z (Zo Z Z Z (Za Z Z (Zn (Ze (Zy ?_))))))))))
   obtain rfl := sj h
   exact ew_ret (res2 Z (.tmp Z) (.tmp Z)) ⟨_, Z, ⟨_, _, Z, (VRep.mono hC7.back hv6), ((vbool_of hbb1))⟩, hC7.bx⟩
  ·
   subst hc2
   refine Zt Z (cw_seq (Zr (Zo Z Z Z (ow_buildSlice0I (R := RBox) (e := 25) Z (by kernel_rfl) hC6 fun p1 w8 hw6 hb8 hl8 hC8 => Zo Z Z Z (Za Z Z (Zo Z Z Z (Za Z Z (Zn (Ze (Zy (Zh ?_)))))))))))
   obtain rfl := sj h
   exact ew_ret (res2 Z (.tmp Z) (.tmp Z)) ⟨_, Z, ⟨_, _, Z, (VRep.mono hC8.back hw6), ((vbool _))⟩, hC8.bx⟩
 ·
  subst hc1
  refine lw_off Z Z Z Z Z Z (lw_off Z Z Z Z Z Z (lw_off Z Z Z Z Z Z (Zo Z Z Z (ow_pickT Z Z Z (Zn (Ze (Zt Z (cw_seq (Zr (Zo Z Z Z (ow_buildSlice0I (R := RBox) (e := 25) Z (by kernel_rfl) hC5 fun p2 w9 hw7 hb9 hl9 hC9 => Zo Z Z Z (Za Z Z (Zo Z Z Z (Za Z Z (Zn (Ze (Zy (Zh ?_))))))))))))))))))
  obtain rfl := sj h
  exact ew_ret (res2 Z (.tmp Z) (.tmp Z)) ⟨_, Z, ⟨_, _, Z, (VRep.mono hC9.back hw7), ((vbool _))⟩, hC9.bx⟩

theorem w_impl_Packet_fields {w : World} {M : Nat → Prop} (_hG : ARep (RArr 4 RShape) w M shapes ⟨0, 0, none⟩) (hO : ∀ b, M b → b < w.heap.size) {v0p : Value} {a_p : Packet} (h0 : VRep RPacket w M a_p v0p) {r : (List Int)} (h : F.impl_Packet_fields a_p = some r) :
  Calls Tryd.prog 77 [v0p].toArray w fun e w' => ∃ v, e = .returned v ∧ VRep (RArr 4 RInt) w' M r v ∧ BX No w w' := by
 have hC : Cx No w M w M := Cx.start hO (fun _ e => e.elim)
 clear _hG
 refine walk (N := 12) Tryd.func77 Z Tryd.ntmps77 Z (cw_seq (Zr (Zo Z Z Z (ow_box (R := RPacket) Z Z h0 hC fun p1 w1 hp1 hb1 hl1 hC1 => Zo Z Z Z (ow_alloc Z (Tryd.zeroValue106 _) hC1 fun g1 w2 hg1 hg2 ho1 hb2 hl2 hC2 => ?_)))))
 have hm1 : (Add g1 M) g1 := .inl Z
 have ho2 : OwnA (RArr 4 RInt) w2 (Add g1 M) g1 106 [0, 0, 0, 0] := OwnA.of ho1 ⟨Z, ⟨_, _, Z, (vint _).cells, _, _, Z, (vint _).cells, _, _, Z, (vint _).cells, _, _, Z, (vint _).cells, Z⟩⟩
 refine Zn (Ze (cw_seq (Zr (Zo Z Z Z (Zf Z Z Tryd.underlying34 Z (Tryd.sizeOf3 _) (Zo Z Z Z (Zl (R := RInt) Z Z (ARep.mono hl2 (hp1.fld fld_Packet_From)) (Tryd.sizeOf3 _) (Tryd.isAgg3 _) fun v1 hv1 => ?_)))))))
 obtain rfl := Zi hv1
 refine Zo Z Z Z (Zf Z Z Tryd.underlying34 Z (Tryd.sizeOf3 _) (Zo Z Z Z (Zl (R := RInt) Z Z (ARep.mono hl2 (hp1.fld fld_Packet_To)) (Tryd.sizeOf3 _) (Tryd.isAgg3 _) fun v2 hv2 => ?_)))
 obtain rfl := Zi hv2
 refine Zo Z Z Z (Zf Z Z Tryd.underlying34 Z (Tryd.sizeOf3 _) (Zo Z Z Z (Zl (R := RInt) Z Z (ARep.mono hl2 (hp1.fld fld_Packet_Port)) (Tryd.sizeOf3 _) (Tryd.isAgg3 _) fun v3 hv3 => ?_)))
 obtain rfl := Zi hv3
 refine Zo Z Z Z (Zf Z Z Tryd.underlying34 Z (Tryd.sizeOf3 _) (Zo Z Z Z (Zl (R := RInt) Z Z (ARep.mono hl2 (hp1.fld fld_Packet_Proto)) (Tryd.sizeOf3 _) (Tryd.isAgg3 _) fun v4 hv4 => ?_)))
 obtain rfl := Zi hv4
 refine Zo Z Z Z (ow_build (v := .agg #[(.int .i64 a_p.From), (.int .i64 a_p.To), (.int .i64 a_p.Port), (.int .i64 a_p.Proto)]) Z Z (by kernel_rfl) ?_)
 have hw1 : VRep (RArr 4 RInt) w2 (Add g1 M) [a_p.From, a_p.To, a_p.Port, a_p.Proto] (.agg #[(.int .i64 a_p.From), (.int .i64 a_p.To), (.int .i64 a_p.Port), (.int .i64 a_p.Proto)]) := ⟨_, ⟨Z, ⟨_, _, Z, (vint _).cells, _, _, Z, (vint _).cells, _, _, Z, (vint _).cells, _, _, Z, (vint _).cells, Z⟩⟩, Z⟩
 obtain ⟨cs1, h1, h2⟩ := ho2.own
 refine lw_op0 Z Z (ow_storeA (X := No) (R := (RArr 4 RInt)) Z Z Z Z h1 h2 (Tryd.sizeOf106 _) hw1 hm1 (.inl hg2) hC2 fun w3 ho3 hb3 hl3 hC3 => Zn (Ze (Zy ?_)))
 obtain rfl := sj h
 obtain ⟨v5, hq1, hw2⟩ := resA ho3 (Tryd.sizeOf106 _) (Tryd.isAgg106 _) rfl
 exact ew_ret (res1 Z (.cell Z hq1)) ⟨_, Z, (hw2.mono hC3.back), hC3.bx⟩

theorem w_impl_PacketValid {w : World} {M : Nat → Prop} (hG : ARep (RArr 4 RShape) w M shapes ⟨0, 0, none⟩) (hO : ∀ b, M b → b < w.heap.size) {v0p : Value} {a_p : Packet} (h0 : VRep RPacket w M a_p v0p) {r : Bool} (h : F.impl_PacketValid a_p = some r) :
  Calls Tryd.prog 41 [v0p].toArray w fun e w' => ∃ v, e = .returned v ∧ VRep RBool w' M r v ∧ BX No w w' := by
 have hC : Cx No w M w M := Cx.start hO (fun _ e => e.elim)
 refine walk (N := 20) Tryd.func41 Z Tryd.ntmps41 Z (cw_seq (Zr (Zo Z Z Z (ow_box (R := RPacket) Z Z h0 hC fun p1 w1 hp1 hb1 hl1 hC1 => Zo Z Z Z (Za Z Z (Zn (Ze (cw_seq (cw_seq (Zr (Zo Z Z Z (Zl (R := RPacket) Z Z hp1 (Tryd.sizeOf34 _) (Tryd.isAgg34 _) fun v1 hv1 => ?_))))))))))))
 replace h := bind_some h
 obtain ⟨x1, hx1, h⟩ := h
 refine Zo Z Z Z (Zk Z Z Tryd.call77 (w_impl_Packet_fields (hG.mono hl1) hC1.old hv1 hx1) fun v2 w2 hv2 => ?_)
 obtain ⟨hv2, hb2⟩ := hv2
 have hl2 := Le.no M hb2
 have hC2 := hC1.no hb2
 refine Zo Z Z Z (Zm Z Z (Zn (Ze ?_)))
 replace h := bind_some h
 obtain ⟨lr1, hlr1, h⟩ := h
 refine cw_for hlr1 (fun s a w' => ∃ (M' : Nat → Prop), Fits 20 [(6, v2), (7, (.int .i64 s))] a ∧ Le w2 M w' M' ∧ Cx No w M w' M') ?_ ?_ ?_
 ·
  intro a ha
  exact ⟨M, ha.sub ⟨Z, Z, trivial⟩, Le.refl _ _, hC2⟩
 ·
  rintro k1 a w3 sr1 ⟨M1, hF1, hl3, hC3⟩ hb3 hR1
  refine cw_at (E := [(6, v2), (7, (.int .i64 k1))]) hF1 (cw_seq (Zr (Zo Z Z Z (ow_lss Z Z Z fun bb1 hbb1 => Zn (Ze (cw_seq ?_))))))
  replace hb3 := Zc hb3
  rcases hb3 with ⟨hc1, hb3⟩ | ⟨hc1, hb3⟩
  ·
   obtain rfl := hbb1.trans hc1
   refine Zt Z (cw_skip (Ze (cw_seq (cw_block (cw_seq (Zr (Zo Z Z Z (Zm Z Z ?_))))))))
   replace hb3 := bind_some hb3
   obtain ⟨x2, hx2, hb3⟩ := hb3
   refine Zo Z Z Z (ow_index (R := RInt) Z Z Z (VRep.mono hl3 hv2) Tryd.underlying106 (Tryd.sizeOf3 _) (Tryd.isAgg3 _) hx2 fun v4 hv4 => ?_)
   obtain rfl := Zi hv4
   refine Zo Z Z Z (Za Z Z (Zo Z Z Z (Za Z Z (Zn (Ze (cw_seq (Zr (Zo Z Z Z (Zm Z Z (Zo Z Z Z (ow_lss Z Z Z fun bb2 hbb2 => Zo Z Z Z (Zm Z Z ?_))))))))))))
   replace hb3 := Zc hb3
   rcases hb3 with ⟨hc2, hb3⟩ | ⟨hc2, hb3⟩
   ·
    obtain rfl := hbb2.trans hc2
    refine lw_off Z Z Z Z Z Z (lw_off Z Z Z Z Z Z (lw_off Z Z Z Z Z Z (lw_off Z Z Z Z Z Z (Zo Z Z Z (ow_pickT Z Z Z (Zn (Ze (Zt Z (cw_seq (Zr (Zo Z Z Z (Za Z Z (Zn (Ze (Zy (ew_blockR (Zh (Zh (ew_blockR (ew_brkR (Zh ?_)))))))))))))))))))))
    have e1 := hR1 _ (sj hb3).symm
    subst e1
    obtain rfl := sj h
    exact ew_ret (res1 Z (.tmp Z)) ⟨_, Z, ((vbool _)), hC3.bx⟩
   ·
    obtain rfl := hbb2.trans hc2
    refine lw_on Z Z Z Z Z Z (Zm Z Z (lw_on Z Z Z Z Z Z (Zm Z Z ?_)))
    replace hb3 := bind_some hb3
    obtain ⟨x3, hx3, hb3⟩ := hb3
    have lz1 := ((hl1.trans hl2).trans hl3)
    refine lw_on Z Z Z Z Z Z (Zk Z Z Tryd.call68 (w_impl_FieldTop (hG.mono lz1) hC3.old hx3) fun v5 w4 hv5 => ?_)
    obtain ⟨hv5, hb4⟩ := hv5
    have hl4 := Le.no M1 hb4
    have hC4 := hC3.no hb4
    obtain rfl := Zi hv5
    refine lw_on Z Z Z Z Z Z (ow_gtr Z Z Z fun bb3 hbb3 => Zo Z Z Z (ow_pickF Z Z Z (Zn (Ze ?_))))
    replace hb3 := Zc hb3
    rcases hb3 with ⟨hc3, hb3⟩ | ⟨hc3, hb3⟩
    ·
     obtain rfl := hbb3.trans hc3
     refine Zt Z (cw_seq (Zr (Zo Z Z Z (Za Z Z (Zn (Ze (Zy (ew_blockR (Zh (Zh (ew_blockR (ew_brkR (Zh ?_)))))))))))))
     have e2 := hR1 _ (sj hb3).symm
     subst e2
     obtain rfl := sj h
     exact ew_ret (res1 Z (.tmp Z)) ⟨_, Z, ((vbool _)), hC4.bx⟩
    ·
     obtain rfl := hbb3.trans hc3
     exact Zu Z (cw_skip (ew_blockN (Ze (Zr (Zo Z Z Z (ow_add Z Z Z (Zo Z Z Z (Zm Z Z (Zn (ew_nxt (W (k1 + 1)) hb3 fun a ha => ⟨M1, (ha.sub ⟨Z, Z, trivial⟩), (hl3.trans hl4), hC4⟩))))))))))
  ·
   obtain rfl := hbb1.trans hc1
   exact Zu Z (cw_exit (ew_thenX (ew_thenX (ew_blockX (ew_brk k1 hb3 fun a ha => ⟨M1, (ha.sub ⟨Z, Z, trivial⟩), hl3, hC3⟩)))))
 ·
  rintro k2 a w5 hlr2 ⟨M2, hF2, hl5, hC5⟩
  subst hlr2
  refine ew_at (E := [(6, v2), (7, (.int .i64 k2))]) hF2 (Ze (cw_seq (Zr (Zo Z Z Z (Za Z Z (Zn (Ze (Zy ?_))))))))
  obtain rfl := sj h
  exact ew_ret (res1 Z (.tmp Z)) ⟨_, Z, ((vbool _)), hC5.bx⟩

theorem w_impl_sides_has {w : World} {M : Nat → Prop} (hG : ARep (RArr 4 RShape) w M shapes ⟨0, 0, none⟩) (hO : ∀ b, M b → b < w.heap.size) {v0p : Value} {a_s : List (List Span)} (h0 : VRep (RArr 4 (RSlice RSpan)) w M a_s v0p) {v1p : Value} {a_p : Packet} (h1 : VRep RPacket w M a_p v1p) {r : Bool} (h : F.impl_sides_has a_s a_p = some r) :
  Calls Tryd.prog 42 [v0p, v1p].toArray w fun e w' => ∃ v, e = .returned v ∧ VRep RBool w' M r v ∧ BX No w w' := by
 have hC : Cx No w M w M := Cx.start hO (fun _ e => e.elim)
 refine walk (N := 20) Tryd.func42 Z Tryd.ntmps42 Z (cw_seq (Zr (Zo Z Z Z (ow_box (R := (RArr 4 (RSlice RSpan))) Z Z h0 hC fun p1 w1 hp1 hb1 hl1 hC1 => Zo Z Z Z (ow_box (R := RPacket) Z Z (VRep.mono hl1 h1) hC1 fun p2 w2 hp2 hb2 hl2 hC2 => Zo Z Z Z (Za Z Z (Zn (Ze (cw_seq (cw_seq (Zr (Zo Z Z Z (Zl (R := RPacket) Z Z hp2 (Tryd.sizeOf34 _) (Tryd.isAgg34 _) fun v1 hv1 => ?_)))))))))))))
 replace h := bind_some h
 obtain ⟨x1, hx1, h⟩ := h
 refine Zo Z Z Z (Zk Z Z Tryd.call77 (w_impl_Packet_fields (hG.mono (hl1.trans hl2)) hC2.old hv1 hx1) fun v2 w3 hv2 => ?_)
 obtain ⟨hv2, hb3⟩ := hv2
 have hl3 := Le.no M hb3
 have hC3 := hC2.no hb3
 refine Zo Z Z Z (Zm Z Z (Zn (Ze ?_)))
 replace h := bind_some h
 obtain ⟨lr1, hlr1, h⟩ := h
 refine cw_for hlr1 (fun s a w' => ∃ (M' : Nat → Prop), Fits 20 [(2, (.pointer (some p1))), (8, v2), (9, (.int .i64 s))] a ∧ Le w3 M w' M' ∧ Cx No w M w' M') ?_ ?_ ?_
 ·
  intro a ha
  exact ⟨M, ha.sub ⟨Z, Z, Z, trivial⟩, Le.refl _ _, hC3⟩
 ·
  rintro k1 a w4 sr1 ⟨M1, hF1, hl4, hC4⟩ hb4 hR1
  refine cw_at (E := [(2, (.pointer (some p1))), (8, v2), (9, (.int .i64 k1))]) hF1 (cw_seq (Zr (Zo Z Z Z (ow_lss Z Z Z fun bb1 hbb1 => Zn (Ze (cw_seq ?_))))))
  replace hb4 := Zc hb4
  rcases hb4 with ⟨hc1, hb4⟩ | ⟨hc1, hb4⟩
  ·
   obtain rfl := hbb1.trans hc1
   refine Zt Z (cw_skip (Ze (cw_seq (cw_block (cw_seq (Zr (Zo Z Z Z (Zm Z Z ?_))))))))
   replace hb4 := bind_some hb4
   obtain ⟨x2, hx2, hb4⟩ := hb4
   refine Zo Z Z Z (ow_index (R := RInt) Z Z Z (VRep.mono hl4 hv2) Tryd.underlying106 (Tryd.sizeOf3 _) (Tryd.isAgg3 _) hx2 fun v4 hv4 => ?_)
   obtain rfl := Zi hv4
   refine Zo Z Z Z (Za Z Z (Zo Z Z Z (Za Z Z (Zn (Ze (cw_seq (Zr (Zo Z Z Z (Zm Z Z ?_)))))))))
   replace hb4 := bind_some hb4
   obtain ⟨x3, hx3, hb4⟩ := hb4
   have lz1 := ((hl2.trans hl3).trans hl4)
   refine Zo Z Z Z (ow_indexArr (R := (RSlice RSpan)) Z Z Z (ARep.mono lz1 hp1) Tryd.underlying61 (Tryd.sizeOf59 _) hx3 fun p3 hp3 => Zo Z Z Z (Zl (R := (RSlice RSpan)) Z Z hp3 (Tryd.sizeOf59 _) (Tryd.isAgg59 _) fun v5 hv5 => Zo Z Z Z (Zm Z Z ?_)))
   replace hb4 := bind_some hb4
   obtain ⟨x4, hx4, hb4⟩ := hb4
   have lz2 := (((hl1.trans hl2).trans hl3).trans hl4)
   refine Zo Z Z Z (Zk Z Z Tryd.call40 (w_impl_SpansHave (hG.mono lz2) hC4.old hv5 hx4) fun v6 w5 hv6 => ?_)
   obtain ⟨hv6, hb5⟩ := hv6
   have hl5 := Le.no M1 hb5
   have hC5 := hC4.no hb5
   obtain rfl := vbool_eq hv6
   refine Zo Z Z Z (ow_not Z Z (Zn (Ze ?_)))
   replace hb4 := Zc hb4
   rcases hb4 with ⟨hc2, hb4⟩ | ⟨hc2, hb4⟩
   ·
    subst hc2
    exact Zu Z (cw_skip (ew_blockN (Ze (Zr (Zo Z Z Z (ow_add Z Z Z (Zo Z Z Z (Zm Z Z (Zn (ew_nxt (W (k1 + 1)) hb4 fun a ha => ⟨M1, (ha.sub ⟨Z, Z, Z, trivial⟩), (hl4.trans hl5), hC5⟩))))))))))
   ·
    subst hc2
    refine Zt Z (cw_seq (Zr (Zo Z Z Z (Za Z Z (Zn (Ze (Zy (ew_blockR (Zh (Zh (ew_blockR (ew_brkR (Zh ?_)))))))))))))
    have e1 := hR1 _ (sj hb4).symm
    subst e1
    obtain rfl := sj h
    exact ew_ret (res1 Z (.tmp Z)) ⟨_, Z, ((vbool _)), hC5.bx⟩
  ·
   obtain rfl := hbb1.trans hc1
   exact Zu Z (cw_exit (ew_thenX (ew_thenX (ew_blockX (ew_brk k1 hb4 fun a ha => ⟨M1, (ha.sub ⟨Z, Z, Z, trivial⟩), hl4, hC4⟩)))))
 ·
  rintro k2 a w6 hlr2 ⟨M2, hF2, hl6, hC6⟩
  subst hlr2
  refine ew_at (E := [(2, (.pointer (some p1))), (8, v2), (9, (.int .i64 k2))]) hF2 (Ze (cw_seq (Zr (Zo Z Z Z (Za Z Z (Zn (Ze (Zy ?_))))))))
  obtain rfl := sj h
  exact ew_ret (res1 Z (.tmp Z)) ⟨_, Z, ((vbool _)), hC6.bx⟩

theorem w_impl_RegionHas {w : World} {M : Nat → Prop} (hG : ARep (RArr 4 RShape) w M shapes ⟨0, 0, none⟩) (hO : ∀ b, M b → b < w.heap.size) {v0p : Value} {a_list : List Box} (h0 : VRep (RSlice RBox) w M a_list v0p) {v1p : Value} {a_p : Packet} (h1 : VRep RPacket w M a_p v1p) {r : Bool} (h : F.impl_RegionHas a_list a_p = some r) :
  Calls Tryd.prog 22 [v0p, v1p].toArray w fun e w' => ∃ v, e = .returned v ∧ VRep RBool w' M r v ∧ BX No w w' := by
 have hC : Cx No w M w M := Cx.start hO (fun _ e => e.elim)
 refine walk (N := 26) Tryd.func22 Z Tryd.ntmps22 Z (cw_seq (Zr (Zo Z Z Z (ow_box (R := RPacket) Z Z h1 hC fun p1 w1 hp1 hb1 hl1 hC1 => Zo Z Z Z (Za Z Z (Zn (Ze (cw_seq (cw_seq (Zr (Zo Z Z Z (Zm Z Z ?_))))))))))))
 replace h := bind_some h
 obtain ⟨x1, hx1, h⟩ := h
 refine Zo Z Z Z (Zk Z Z Tryd.call49 (w_impl_RegionValid (hG.mono hl1) hC1.old (VRep.mono hl1 h0) hx1) fun v1 w2 hv1 => ?_)
 obtain ⟨hv1, hb2⟩ := hv1
 have hl2 := Le.no M hb2
 have hC2 := hC1.no hb2
 obtain rfl := vbool_eq hv1
 refine Zo Z Z Z (ow_not Z Z (Zo Z Z Z (Zm Z Z ?_)))
 replace h := Zc h
 rcases h with ⟨hc1, h⟩ | ⟨hc1, h⟩
 ·
  subst hc1
  refine lw_on Z Z Z Z Z Z (Zl (R := RPacket) Z Z (ARep.mono hl2 hp1) (Tryd.sizeOf34 _) (Tryd.isAgg34 _) fun v2 hv2 => ?_)
  replace h := bind_some h
  obtain ⟨x2, hx2, h⟩ := h
  refine lw_on Z Z Z Z Z Z (Zk Z Z Tryd.call41 (w_impl_PacketValid (hG.mono (hl1.trans hl2)) hC2.old hv2 hx2) fun v3 w3 hv3 => ?_)
  obtain ⟨hv3, hb3⟩ := hv3
  have hl3 := Le.no M hb3
  have hC3 := hC2.no hb3
  obtain rfl := vbool_eq hv3
  refine lw_on Z Z Z Z Z Z (ow_not Z Z (Zo Z Z Z (ow_pickF Z Z Z (Zn (Ze ?_)))))
  replace h := Zc h
  rcases h with ⟨hc2, h⟩ | ⟨hc2, h⟩
  ·
   subst hc2
   refine Zu Z (cw_skip (Ze (cw_seq (cw_seq (Zr (Zo Z Z Z (Zm Z Z ?_)))))))
   have lz1 := ((hl1.trans hl2).trans hl3)
   refine Zo Z Z Z (ow_len Z Z (VRep.mono lz1 h0) Tryd.underlying28 Z (Zo Z Z Z (Zm Z Z (Zn (Ze ?_)))))
   replace h := bind_some h
   obtain ⟨lr1, hlr1, h⟩ := h
   refine cw_for hlr1 (fun s a w' => ∃ (M' : Nat → Prop), Fits 26 [(3, (.pointer (some p1))), (15, v0p), (16, (.int .i64 (a_list.length : Int))), (17, (.int .i64 s))] a ∧ Le w3 M w' M' ∧ Cx No w M w' M') ?_ ?_ ?_
   ·
    intro a ha
    exact ⟨M, ha.sub ⟨Z, Z, Z, Z, trivial⟩, Le.refl _ _, hC3⟩
   ·
    rintro k1 a w4 sr1 ⟨M1, hF1, hl4, hC4⟩ hb4 hR1
    refine cw_at (E := [(3, (.pointer (some p1))), (15, v0p), (16, (.int .i64 (a_list.length : Int))), (17, (.int .i64 k1))]) hF1 (cw_seq (Zr (Zo Z Z Z (ow_lss Z Z Z fun bb1 hbb1 => Zn (Ze (cw_seq ?_))))))
    replace hb4 := Zc hb4
    rcases hb4 with ⟨hc3, hb4⟩ | ⟨hc3, hb4⟩
    ·
     obtain rfl := hbb1.trans hc3
     refine Zt Z (cw_skip (Ze (cw_seq (cw_block (cw_seq (Zr ?_))))))
     replace hb4 := bind_some hb4
     obtain ⟨x3, hx3, hb4⟩ := hb4
     refine Zo Z Z Z (Zx (R := RBox) Z Z Z (VRep.mono (lz1.trans hl4) h0) Tryd.underlying28 (Tryd.sizeOf25 _) hx3 fun p2 hp2 => Zo Z Z Z (Zl (R := RBox) Z Z hp2 (Tryd.sizeOf25 _) (Tryd.isAgg25 _) fun v5 hv5 => lw_allocStore (R := RBox) Z Z Z Z Z Z Z Tryd.zeroValue25 Tryd.sizeOf25 Z Z Z (by simp) hv5 hC4 fun p3 w5 hp3 hb5 hl5 hC5 => Zn (Ze (cw_seq ?_))))
     replace hb4 := bind_some hb4
     obtain ⟨x4, hx4, hb4⟩ := hb4
     have lz2 := ((lz1.trans hl4).trans hl5)
     have lz3 := (((hl2.trans hl3).trans hl4).trans hl5)
     refine cw_sub (E' := [(3, (.pointer (some p1))), (6, (.pointer (some p3))), (15, v0p), (16, (.int .i64 (a_list.length : Int))), (17, (.int .i64 k1))]) ⟨Z, Z, Z, Z, Z, trivial⟩ (cw_drawQ 3 [PV RBox M1 x3, PV (RArr 4 (RSlice RSpan)) M1 x4, PV RPacket M1 a_p] (by kernel_rfl) Z (by kernel_rfl) ⟨PV.mono _ _ _, PV.mono _ _ _, PV.mono _ _ _, trivial⟩ ⟨?_, ?_, ?_, trivial⟩ ?_)
     ·
      intro w7 D hS1 hd1
      have hl7 := Le.no M1 hS1
      exact Zs (E' := [(6, (.pointer (some p3)))]) ⟨Z, trivial⟩ (Zp Z (Zl (R := RBox) Z Z (ARep.mono hl7 hp3) (Tryd.sizeOf25 _) (Tryd.isAgg25 _) fun v9 hv9 => ⟨BX.refl _ _, hv9⟩))
     ·
      intro w8 D hS2 hd2
      have hl8 := Le.no M1 hS2
      have hC8 := hC5.no hS2
      have d1 : PV RBox M1 x3 (D 0) w8 := dpA hd2 0 Z
      generalize hq1 : (D 0) = v10 at d1
      refine Zs (E' := [(21, v10)]) ⟨(congrArg some hq1), trivial⟩ (Zp Z (Zk Z Z Tryd.call32 (w_impl_sidesOf (hG.mono (lz2.trans hl8)) hC8.old d1 hx4) fun v11 w9 hv11 => ?_))
      obtain ⟨hv11, hb7⟩ := hv11
      exact ⟨hb7, hv11⟩
     ·
      intro w10 D hS3 hd3
      have hl10 := Le.no M1 hS3
      exact Zs (E' := [(3, (.pointer (some p1)))]) ⟨Z, trivial⟩ (Zp Z (Zl (R := RPacket) Z Z (ARep.mono (lz3.trans hl10) hp1) (Tryd.sizeOf34 _) (Tryd.isAgg34 _) fun v12 hv12 => ⟨BX.refl _ _, hv12⟩))
     ·
      intro w11 D hS4 hd4
      have d3 : PV (RArr 4 (RSlice RSpan)) M1 x4 (D 1) w11 := dpA hd4 1 Z
      have d4 : PV RPacket M1 a_p (D 2) w11 := dpA hd4 2 Z
      have hl11 := Le.no M1 hS4
      have hC11 := hC5.no hS4
      generalize hq2 : (D 1) = v13 at d3
      generalize hq3 : (D 2) = v14 at d4
      refine lw_sub (E' := [(22, v13), (23, v14), (3, (.pointer (some p1))), (6, (.pointer (some p3))), (15, v0p), (16, (.int .i64 (a_list.length : Int))), (17, (.int .i64 k1))]) ⟨(congrArg some hq2), (congrArg some hq3), Z, Z, Z, Z, Z, trivial⟩ ?_
      replace hb4 := bind_some hb4
      obtain ⟨x5, hx5, hb4⟩ := hb4
      refine Zo Z Z Z (Zk Z Z Tryd.call42 (w_impl_sides_has (hG.mono (lz2.trans hl11)) hC11.old d3 d4 hx5) fun v15 w12 hv15 => ?_)
      obtain ⟨hv15, hb8⟩ := hv15
      have hl12 := Le.no M1 hb8
      have hC12 := hC11.no hb8
      obtain rfl := vbool_eq hv15
      refine Zn (Ze ?_)
      replace hb4 := Zc hb4
      rcases hb4 with ⟨hc4, hb4⟩ | ⟨hc4, hb4⟩
      ·
       subst hc4
       refine Zt Z (cw_seq (Zr (Zo Z Z Z (Za Z Z (Zn (Ze (Zy (ew_blockR (Zh (Zh (ew_blockR (ew_brkR (Zh ?_)))))))))))))
       have e1 := hR1 _ (sj hb4).symm
       subst e1
       obtain rfl := sj h
       exact ew_ret (res1 Z (.tmp Z)) ⟨_, Z, ((vbool _)), hC12.bx⟩
      ·
       subst hc4
       refine Zu Z (cw_skip (ew_blockN (Ze (Zr (Zo Z Z Z (ow_add Z Z Z (Zo Z Z Z (Zm Z Z (Zn ?_)))))))))
       have lz4 := (((hl4.trans hl5).trans hl11).trans hl12)
       exact ew_nxt (W (k1 + 1)) hb4 fun a ha => ⟨M1, (ha.sub ⟨Z, Z, Z, Z, trivial⟩), lz4, hC12⟩
    ·
     obtain rfl := hbb1.trans hc3
     exact Zu Z (cw_exit (ew_thenX (ew_thenX (ew_blockX (ew_brk k1 hb4 fun a ha => ⟨M1, (ha.sub ⟨Z, Z, Z, Z, trivial⟩), hl4, hC4⟩)))))
   ·
    rintro k2 a w13 hlr2 ⟨M2, hF2, hl13, hC13⟩
    subst hlr2
    refine ew_at (E := [(3, (.pointer (some p1))), (15, v0p), (16, (.int .i64 (a_list.length : Int))), (17, (.int .i64 k2))]) hF2 (Ze (cw_seq (Zr (Zo Z Z Z (Za Z Z (Zn (Ze (Zy ?_))))))))
    obtain rfl := sj h
    exact ew_ret (res1 Z (.tmp Z)) ⟨_, Z, ((vbool _)), hC13.bx⟩
  ·
   subst hc2
   refine Zt Z (cw_seq (Zr (Zo Z Z Z (Za Z Z (Zn (Ze (Zy (Zh ?_))))))))
   obtain rfl := sj h
   exact ew_ret (res1 Z (.tmp Z)) ⟨_, Z, ((vbool _)), hC3.bx⟩
 ·
  subst hc1
  refine lw_off Z Z Z Z Z Z (lw_off Z Z Z Z Z Z (lw_off Z Z Z Z Z Z (Zo Z Z Z (ow_pickT Z Z Z (Zn (Ze (Zt Z (cw_seq (Zr (Zo Z Z Z (Za Z Z (Zn (Ze (Zy (Zh ?_)))))))))))))))
  obtain rfl := sj h
  exact ew_ret (res1 Z (.tmp Z)) ⟨_, Z, ((vbool _)), hC2.bx⟩

theorem w_laws_FnRegionMore {w : World} {M : Nat → Prop} (hG : ARep (RArr 4 RShape) w M shapes ⟨0, 0, none⟩) (hO : ∀ b, M b → b < w.heap.size) {v0p : Value} {a_code : List Int} (h0 : VRep (RSlice RU8) w M a_code v0p) {v1p : Value} {a_more : List Int} (h1 : VRep (RSlice RU8) w M a_more v1p) {r : Bool} (h : F.laws_FnRegionMore a_code a_more = some r) :
  Calls Tryd.prog 6 [v0p, v1p].toArray w fun e w' => ∃ v, e = .returned v ∧ VRep RBool w' M r v ∧ BX No w w' := by
 obtain ⟨i25, hi25, hz25, hs25, hy25⟩ := info25
 have hC : Cx No w M w M := Cx.start hO (fun _ e => e.elim)
 refine walk (N := 82) Tryd.func6 Z Tryd.ntmps6 Z (cw_seq (Zr (Zo Z Z Z (Za Z Z (Zn (Ze (cw_seq (cw_seq (Zr (Zo Z Z Z (Zm Z Z (Zo Z Z Z (ow_len Z Z h0 Tryd.underlying22 Z (Zo Z Z Z (ow_gtr Z Z Z fun bb1 hbb1 => Zo Z Z Z (Zm Z Z ?_))))))))))))))))
 replace h := Zc h
 rcases h with ⟨hc1, h⟩ | ⟨hc1, h⟩
 ·
  obtain rfl := hbb1.trans hc1
  refine lw_off Z Z Z Z Z Z (lw_off Z Z Z Z Z Z (lw_off Z Z Z Z Z Z (Zo Z Z Z (ow_pickT Z Z Z (Zn (Ze (Zt Z (cw_seq (Zr (Zo Z Z Z (Za Z Z (Zn (Ze (Zy (Zh ?_)))))))))))))))
  obtain rfl := sj h
  exact ew_ret (res1 Z (.tmp Z)) ⟨_, Z, ((vbool _)), hC.bx⟩
 ·
  obtain rfl := hbb1.trans hc1
  refine lw_on Z Z Z Z Z Z (Zm Z Z (lw_on Z Z Z Z Z Z (ow_len Z Z h1 Tryd.underlying22 Z (lw_on Z Z Z Z Z Z (ow_gtr Z Z Z fun bb2 hbb2 => Zo Z Z Z (ow_pickF Z Z Z (Zn (Ze ?_))))))))
  replace h := Zc h
  rcases h with ⟨hc2, h⟩ | ⟨hc2, h⟩
  ·
   obtain rfl := hbb2.trans hc2
   refine Zt Z (cw_seq (Zr (Zo Z Z Z (Za Z Z (Zn (Ze (Zy (Zh ?_))))))))
   obtain rfl := sj h
   exact ew_ret (res1 Z (.tmp Z)) ⟨_, Z, ((vbool _)), hC.bx⟩
  ·
   obtain rfl := hbb2.trans hc2
   refine Zu Z (cw_skip (Ze (cw_seq (Zr (Zo Z Z Z (Zm Z Z ?_))))))
   replace h := bind_some h
   obtain ⟨x1, hx1, h⟩ := h
   refine Zo Z Z Z (Zk Z Z Tryd.call19 (w_spec_DrawRegionLess hG hC.old h0 hx1) fun v1 w1 hv1 => ?_)
   obtain ⟨⟨v2, v3, rfl, hv2, hv3⟩, hb1⟩ := hv1
   have hl1 := Le.no M hb1
   have hC1 := hC.no hb1
   refine Zo Z Z Z (Zm Z Z (Zo Z Z Z (ow_extract Z Z Z (Zo Z Z Z (ow_extract Z Z Z (lw_allocStore (R := RBox) Z Z Z Z Z Z Z Tryd.zeroValue25 Tryd.sizeOf25 Z Z Z (by simp) hv2 hC1 fun p1 w2 hp1 hb2 hl2 hC2 => Zo Z Z Z (Za Z Z (Zn (Ze (cw_seq (Zr (Zo Z Z Z (Zl (R := RBox) Z Z hp1 (Tryd.sizeOf25 _) (Tryd.isAgg25 _) fun v4 hv4 => Zo Z Z Z (Zm Z Z ?_))))))))))))))
   replace h := bind_some h
   obtain ⟨x2, hx2, h⟩ := h
   refine Zo Z Z Z (Zk Z Z Tryd.call20 (w_impl_RegionLess (hG.mono (hl1.trans hl2)) hC2.old hv4 (VRep.mono hl2 hv3) hx2) fun v5 w3 hv5 => ?_)
   obtain ⟨⟨v6, v7, rfl, hv6, hv7⟩, hb3⟩ := hv5
   have hl3 := Le.no M hb3
   have hC3 := hC2.no hb3
   obtain ⟨bb3, hbb3, rfl⟩ := vbool_ex hv7
   refine Zo Z Z Z (Zm Z Z (Zo Z Z Z (ow_extract Z Z Z (Zo Z Z Z (ow_extract Z Z Z (Zo Z Z Z (Za Z Z (Zo Z Z Z (Za Z Z (Zn (Ze (cw_seq (Zr (Zo Z Z Z (Zl (R := RBox) Z Z (ARep.mono hl3 hp1) (Tryd.sizeOf25 _) (Tryd.isAgg25 _) fun v8 hv8 => Zo Z Z Z (Zm Z Z ?_))))))))))))))))
   replace h := bind_some h
   obtain ⟨x3, hx3, h⟩ := h
   have lz1 := ((hl1.trans hl2).trans hl3)
   refine Zo Z Z Z (Zk Z Z Tryd.call21 (w_spec_RegionLess (hG.mono lz1) hC3.old hv8 (VRep.mono (hl2.trans hl3) hv3) hx3) fun v9 w4 hv9 => ?_)
   obtain ⟨⟨v10, v11, rfl, hv10, hv11⟩, hb4⟩ := hv9
   have hl4 := Le.no M hb4
   have hC4 := hC3.no hb4
   obtain ⟨bb4, hbb4, rfl⟩ := vbool_ex hv11
   refine Zo Z Z Z (Zm Z Z (Zo Z Z Z (ow_extract Z Z Z (Zo Z Z Z (ow_extract Z Z Z (Zo Z Z Z (Za Z Z (Zo Z Z Z (Za Z Z (Zn (Ze (cw_seq (cw_seq (Zr (Zo Z Z Z (Zm Z Z (Zo Z Z Z (Zm Z Z ?_))))))))))))))))))
   replace h := bind_some h
   obtain ⟨x4, hx4, h⟩ := h
   refine Zo Z Z Z (Zk Z Z Tryd.call10 (w_laws_sameBoxes (hG.mono (lz1.trans hl4)) hC4.old (VRep.mono hl4 hv6) hv10 hx4) fun v12 w5 hv12 => ?_)
   obtain ⟨hv12, hb5⟩ := hv12
   have hl5 := Le.no M hb5
   have hC5 := hC4.no hb5
   obtain rfl := vbool_eq hv12
   refine Zo Z Z Z (ow_not Z Z (Zo Z Z Z (Zm Z Z ?_)))
   replace h := Zc h
   rcases h with ⟨hc3, h⟩ | ⟨hc3, h⟩
   ·
    subst hc3
    refine lw_on Z Z Z Z Z Z (Zm Z Z (lw_on Z Z Z Z Z Z (Zm Z Z (lw_on Z Z Z Z Z Z (ow_neqB Z Z Z Tryd.underlying4 fun bb5 hbb5 => ?_)))))
    have hbb5' : bb5 = (x2.2 != x3.2) := hbb5.trans (by rw [hbb3, hbb4])
    refine Zo Z Z Z (ow_pickF Z Z Z (Zn (Ze ?_)))
    replace h := Zc h
    rcases h with ⟨hc4, h⟩ | ⟨hc4, h⟩
    ·
     obtain rfl := hbb5'.trans hc4
     refine Zt Z (cw_seq (Zr (Zo Z Z Z (Za Z Z (Zn (Ze (Zy (Zh ?_))))))))
     obtain rfl := sj h
     exact ew_ret (res1 Z (.tmp Z)) ⟨_, Z, ((vbool _)), hC5.bx⟩
    ·
     obtain rfl := hbb5'.trans hc4
     refine Zu Z (cw_skip (Ze (cw_seq (cw_seq (Zr (Zo Z Z Z (Zm Z Z (Zo Z Z Z (ow_not Z Z (Zn (Ze ?_)))))))))))
     replace h := Zc h
     rcases h with ⟨hc5, h⟩ | ⟨hc5, h⟩
     ·
      obtain rfl := hbb3.trans hc5
      refine Zu Z (cw_skip (Ze (cw_seq ?_)))
      replace h := bind_some h
      obtain ⟨y1, hy1, h⟩ := h
      replace h := bind_some h
      obtain ⟨x5, hx5, h⟩ := h
      have lz2 := ((lz1.trans hl4).trans hl5)
      have lz3 := (((hl2.trans hl3).trans hl4).trans hl5)
      have lz4 := ((hl3.trans hl4).trans hl5)
      have lz5 := (hl4.trans hl5)
      refine cw_sub (E' := [(1, v1p), (4, (.bool false)), (5, (.pointer (some p1))), (6, v3), (7, v6)]) ⟨Z, Z, Z, Z, Z, trivial⟩ (cw_drawQ 11 [PV RBox M x1.1, PV (RSlice RBox) M x1.2, PV (RSlice RBox) M x1.2, PEq (.int .i64 (x1.2.length : Int)), PEq (.int .i64 (W (((x1.2.length : Int)).tdiv 2))), PV (RSlice RBox) M y1, PT2 (PV (RSlice RBox) M x5.1) (PEq (.bool x5.2)), PT2 (PV (RSlice RBox) M x5.1) (PEq (.bool x5.2)), PV (RSlice RBox) M x5.1, PEq (.bool x5.2), PV (RSlice RBox) M x5.1] (by kernel_rfl) Z (by kernel_rfl) ⟨PV.mono _ _ _, PV.mono _ _ _, PV.mono _ _ _, Zq, Zq, PV.mono _ _ _, (PT2.mono (PV.mono _ _ _) (Zq)), (PT2.mono (PV.mono _ _ _) (Zq)), PV.mono _ _ _, Zq, PV.mono _ _ _, trivial⟩ ⟨?_, ?_, ?_, ?_, ?_, ?_, ?_, ?_, ?_, ?_, ?_, trivial⟩ ?_)
      ·
       intro w7 D hS1 hd1
       have hl7 := Le.no M hS1
       exact Zs (E' := [(5, (.pointer (some p1)))]) ⟨Z, trivial⟩ (Zp Z (Zl (R := RBox) Z Z (ARep.mono (lz4.trans hl7) hp1) (Tryd.sizeOf25 _) (Tryd.isAgg25 _) fun v18 hv18 => ⟨BX.refl _ _, hv18⟩))
      ·
       intro w8 D hS2 hd2
       have hl8 := Le.no M hS2
       exact Zs (E' := [(6, v3)]) ⟨Z, trivial⟩ (Zp Z (Zm Z Z ⟨BX.refl _ _, (VRep.mono (lz3.trans hl8) hv3)⟩))
      ·
       intro w9 D hS3 hd3
       have hl9 := Le.no M hS3
       exact Zs (E' := [(6, v3)]) ⟨Z, trivial⟩ (Zp Z (Zm Z Z ⟨BX.refl _ _, (VRep.mono (lz3.trans hl9) hv3)⟩))
      ·
       intro w10 D hS4 hd4
       have d1 : PV (RSlice RBox) M x1.2 (D 2) w10 := dpA hd4 2 Z
       generalize hq1 : (D 2) = v19 at d1
       exact Zs (E' := [(54, v19)]) ⟨(congrArg some hq1), trivial⟩ (Zp Z (ow_len Z Z d1 Tryd.underlying28 Z Zb))
      ·
       intro w11 D hS5 hd5
       exact Zs (E' := [(55, (.int .i64 (x1.2.length : Int)))]) ⟨(dpE hd5 3 Z Z), trivial⟩ (Zp Z (ow_quo Z Z Z (by decide) Zb))
      ·
       intro w12 D hS6 hd6
       have d3 : PV (RSlice RBox) M x1.2 (D 1) w12 := dpA hd6 1 Z
       generalize hq2 : (D 1) = v20 at d3
       refine Zs (E' := [(53, v20), (56, (.int .i64 (W (((x1.2.length : Int)).tdiv 2))))]) ⟨(congrArg some hq2), (dpE hd6 4 Z Z), trivial⟩ (Zp Z (ow_sliceTo (R := RBox) Z Z Z d3 Tryd.underlying28 (Tryd.sizeOf25 _) (takeF_some hy1).2 fun v21 hv21 => ?_))
       rw [← (takeF_some hy1).1] at hv21
       exact ⟨BX.refl _ _, hv21⟩
      ·
       intro w13 D hS7 hd7
       have hl13 := Le.no M hS7
       have hC13 := hC5.no hS7
       have d5 : PV RBox M x1.1 (D 0) w13 := dpA hd7 0 Z
       have d6 : PV (RSlice RBox) M y1 (D 5) w13 := dpA hd7 5 Z
       generalize hq3 : (D 0) = v22 at d5
       generalize hq4 : (D 5) = v23 at d6
       refine Zs (E' := [(52, v22), (57, v23)]) ⟨(congrArg some hq3), (congrArg some hq4), trivial⟩ (Zp Z (Zk Z Z Tryd.call20 (w_impl_RegionLess (hG.mono (lz2.trans hl13)) hC13.old d5 d6 hx5) fun v24 w14 hv24 => ?_))
       obtain ⟨⟨v25, v26, rfl, hv25, hv26⟩, hb7⟩ := hv24
       obtain ⟨bb7, hbb7, rfl⟩ := vbool_ex hv26
       exact ⟨hb7, ⟨_, _, Z, hv25, (congrArg Value.bool hbb7)⟩⟩
      ·
       intro w15 D hS8 hd8
       have d7 : PT2 (PV (RSlice RBox) M x5.1) (PEq (.bool x5.2)) (D 6) w15 := dpA hd8 6 Z
       obtain ⟨v27, v28, e1, hd9, hd10⟩ := d7
       obtain ⟨bb8, hq5, rfl⟩ : ∃ b, b = x5.2 ∧ v28 = .bool b := ⟨_, rfl, hd10⟩
       exact Zs (E' := [(58, (.tuple #[v27, (.bool bb8)]))]) ⟨(congrArg some e1), trivial⟩ (Zp Z (Zm Z Z ⟨BX.refl _ _, ⟨_, _, Z, hd9, (congrArg Value.bool hq5)⟩⟩))
      ·
       intro w16 D hS9 hd11
       have d8 : PT2 (PV (RSlice RBox) M x5.1) (PEq (.bool x5.2)) (D 7) w16 := dpA hd11 7 Z
       obtain ⟨v29, v30, e2, hd12, hd13⟩ := d8
       obtain ⟨bb9, hq6, rfl⟩ : ∃ b, b = x5.2 ∧ v30 = .bool b := ⟨_, rfl, hd13⟩
       exact Zs (E' := [(51, (.tuple #[v29, (.bool bb9)]))]) ⟨(congrArg some e2), trivial⟩ (Zp Z (ow_extract Z Z Z ⟨BX.refl _ _, hd12⟩))
      ·
       intro w17 D hS10 hd14
       have d9 : PT2 (PV (RSlice RBox) M x5.1) (PEq (.bool x5.2)) (D 7) w17 := dpA hd14 7 Z
       obtain ⟨v31, v32, e3, hd15, hd16⟩ := d9
       obtain ⟨bb10, hq7, rfl⟩ : ∃ b, b = x5.2 ∧ v32 = .bool b := ⟨_, rfl, hd16⟩
       exact Zs (E' := [(51, (.tuple #[v31, (.bool bb10)]))]) ⟨(congrArg some e3), trivial⟩ (Zp Z (ow_extract Z Z Z ⟨BX.refl _ _, (congrArg Value.bool hq7)⟩))
      ·
       intro w18 D hS11 hd17
       have d10 : PV (RSlice RBox) M x5.1 (D 8) w18 := dpA hd17 8 Z
       generalize hq8 : (D 8) = v33 at d10
       exact Zs (E' := [(59, v33)]) ⟨(congrArg some hq8), trivial⟩ (Zp Z (Za Z Z ⟨BX.refl _ _, d10⟩))
      ·
       intro w19 D hS12 hd18
       have d30 : PEq (.bool x5.2) (D 9) w19 := dpA hd18 9 Z
       have d31 : PV (RSlice RBox) M x5.1 (D 10) w19 := dpA hd18 10 Z
       have hl19 := Le.no M hS12
       have hC19 := hC5.no hS12
       obtain ⟨bb11, hq9, hq10⟩ : ∃ b, b = x5.2 ∧ (D 9) = .bool b := ⟨_, rfl, d30⟩
       generalize hq11 : (D 10) = v34 at d31
       refine lw_sub (E' := [(60, (.bool bb11)), (11, v34), (1, v1p), (4, (.bool false)), (5, (.pointer (some p1))), (6, v3), (7, v6)]) ⟨(congrArg some hq10), (congrArg some hq11), Z, Z, Z, Z, Z, trivial⟩ (Zo Z Z Z (Za Z Z (Zn (Ze (cw_seq ?_)))))
       replace h := bind_some h
       obtain ⟨z1, hz1, h⟩ := h
       replace h := bind_some h
       obtain ⟨z2, hz2, h⟩ := h
       replace h := bind_some h
       obtain ⟨x6, hx6, h⟩ := h
       have lz6 := (lz2.trans hl19)
       have lz7 := (lz3.trans hl19)
       have lz8 := (lz4.trans hl19)
       have lz9 := (lz5.trans hl19)
       refine cw_sub (E' := [(1, v1p), (4, (.bool false)), (5, (.pointer (some p1))), (6, v3), (7, v6), (11, v34), (12, (.bool bb11))]) ⟨Z, Z, Z, Z, Z, Z, Z, trivial⟩ (cw_drawD 25 10 [none, none, none, none, none, some 0, none, none, none, none] [0, 0, 0, 0, 0, 1, 1, 1, 1, 1] [PLit0, PEq v3, PNZ RBox w19.heap.size 25 w19 M z1, POne RBox w19 M x1.1, PLq RBox w19 M [x1.1], PV (RSlice RBox) M z2, PEq v1p, PEq (.int .i64 (a_more.length : Int)), PV RPacket M x6, PNew w19 34 #[(.int .i64 0), (.int .i64 0), (.int .i64 0), (.int .i64 0)]] (by kernel_rfl) Z (by kernel_rfl) (by kernel_rfl) (by kernel_rfl) ⟨PLit0.mono, (Zq), PNZ.mono, POne.mono, PLq.mono, (PV.mono _ _ _), (Zq), (Zq), (PV.mono _ _ _), (PNew.mono _ _ _), trivial⟩ ⟨(fun h => by cases h), (fun h => by cases h), (fun h => by cases h), (fun h => by cases h), (fun h => by cases h), (fun _ => PEq.monoD _), (fun _ => PEq.monoD _), (fun _ => PV.monoD (fun _ _ _ _ _ _ h => h)), (fun _ => PNew.monoD _ (by decide)), trivial⟩ ⟨?_, ?_, ?_, ?_, ?_, ?_, ?_, ?_, ?_, ?_, trivial⟩ ?_)
       ·
        intro wa D hSa hda
        have hCa := hC19.no hSa
        exact Zs (E' := []) trivial (Zp Z (ow_buildSlice0I (R := RBox) (e := 25) Z (by kernel_rfl) hCa fun pb wb hwb hbb hlb hCb => ⟨hbb, _, Z⟩))
       ·
        intro wa D hSa hda
        exact Zs (E' := [(6, v3)]) ⟨Z, trivial⟩ (Zp Z (Zm Z Z Zb))
       ·
        intro wa D hSa hda
        have d0a : PLit0 (D 0) wa := dpA hda 0 Z
        obtain ⟨pa, hqa⟩ := d0a
        exact Zs (E' := [(61, .slice (some pa) 0 0), (62, v3)]) ⟨congrArg some hqa, dpE hda 1 Z Z, trivial⟩ (Zp Z (ow_appendCopyZ (R := RBox) (B := w19.heap.size) Z Z Z Z Z Tryd.underlying28 hi25 hz25 hs25 hy25 Z Z Z Z (VRep.mono lz7 hv3) hSa hz1 (Nat.le_refl _) fun vb wb hvb hbb => ⟨hbb, hvb⟩))
       ·
        intro wa D hSa hda
        exact Zs (E' := [(5, (.pointer (some p1)))]) ⟨Z, trivial⟩ (Zp Z (ow_loadZ (R := RBox) Z Z (ARep.mono lz8 hp1) hSa (Tryd.sizeOf25 _) (Tryd.isAgg25 _) Z fun v hv => ⟨BX.refl _ _, hv⟩))
       ·
        intro wa D hSa hda
        have d3a : POne RBox w19 M x1.1 (D 3) wa := dpA hda 3 Z
        obtain ⟨ua, hqa, hra⟩ := d3a
        exact Zs (E' := [(64, .agg #[ua])]) ⟨congrArg some hqa, trivial⟩ (Zp Z (ow_buildSliceZ (R := RBox) (xs := [x1.1]) (cs := #[ua]) (e := 25) Z Z (by kernel_rfl) Z ⟨_, _, Z, hra, Z⟩ fun vb wb hvb hbb => ⟨hbb, hvb⟩))
       ·
        intro wa D hSa hda
        have hSa : BX No w19 wa := hSa
        have d2a : PNZ RBox w19.heap.size 25 w19 M z1 (D 2) wa := dpA hda 2 Z
        have d4a : PLq RBox w19 M [x1.1] (D 4) wa := dpA hda 4 Z
        exact Zs (E' := [(63, (D 2)), (65, (D 4))]) ⟨Z, Z, trivial⟩ (Zp Z (ow_growZ (R := RBox) Z Z Z Z Tryd.underlying28 hi25 hz25 hs25 hy25 Z Z Z Z d2a hSa d4a (by simp) hz2 hC19.old fun vb wb hvb hgb => ⟨⟨hgb.1, hgb⟩, hvb⟩))
       ·
        intro wa D hSa hda
        exact Zs (E' := [(1, v1p)]) ⟨Z, trivial⟩ (Zp Z (Zm Z Z Zb))
       ·
        intro wa D hSa hda
        exact Zs (E' := [(67, v1p)]) ⟨dpE hda 6 Z Z, trivial⟩ (Zp Z (ow_len Z Z (VRep.mono (Le.no M hSa) (VRep.mono lz6 h1)) Tryd.underlying22 Z Zb))
       ·
        intro wa D hSa hda
        have hCa := hC19.no hSa
        have d5a : PV (RSlice RBox) M z2 (D 5) wa := dpA hda 5 Z
        exact Zs (E' := [(66, (D 5)), (68, (.int .i64 (a_more.length : Int)))]) ⟨Z, dpE hda 7 Z Z, trivial⟩ (Zp Z (Zk Z Z Tryd.call14 (w_laws_probe (hG.mono (lz6.trans (Le.no M hSa))) hCa.old d5a hx6) fun va wb hva => ⟨hva.2, hva.1⟩))
       ·
        intro wa D hSa hda
        have hCa := hC19.no hSa
        exact Zs (E' := []) trivial (Zp Z (ow_alloc Z (Tryd.zeroValue34 _) hCa fun gb wb hgb hgc hob hbb hlb hCb => ⟨hbb, _, Z, Nat.le_trans hSa.size hgb, hob⟩))
       ·
        intro w20 D hS13 hd19
        have d32 : PV RPacket M x6 (D 8) w20 := (dpA hd19 8 Z) (by decide)
        generalize hq12 : (D 8) = v35 at d32
        have d33 : PNew w19 34 #[(.int .i64 0), (.int .i64 0), (.int .i64 0), (.int .i64 0)] (D 9) w20 := (dpA hd19 9 Z) (by decide)
        obtain ⟨g1, hq13, hg1, ho1⟩ := d33
        have hg2 := Nat.le_trans hC19.bx.size hg1
        have hl20 := (Le.no M hS13).add hg1
        have hC20 := (hC19.no hS13).add ho1.lt hg2
        have hm1 : (Add g1 M) g1 := .inl Z
        have hw1 : VRep RPacket w20 (Add g1 M) x6 v35 := VRep.leaf (fun _ _ _ _ _ h => h) d32
        refine lw_sub (E' := [(69, v35), (13, (.pointer (some ⟨g1, 0, none⟩))), (1, v1p), (4, (.bool false)), (5, (.pointer (some p1))), (6, v3), (7, v6), (11, v34), (12, (.bool bb11))]) ⟨(congrArg some hq12), (congrArg some hq13), Z, Z, Z, Z, Z, Z, Z, trivial⟩ ?_
        obtain rfl := open_Packet hw1
        refine lw_op0 Z Z (ow_store (X := No) (us := [(.int .i64 x6.From), (.int .i64 x6.To), (.int .i64 x6.Port), (.int .i64 x6.Proto)]) (cs' := #[(.int .i64 x6.From), (.int .i64 x6.To), (.int .i64 x6.Port), (.int .i64 x6.Proto)]) Z Z Z Z ho1 (Tryd.sizeOf34 _) Z Z Z Z hm1 (.inl hg2) Z hC20 fun w21 ho2 hb8 hl21 hC21 => Zn (Ze (cw_seq (Zr (Zo Z Z Z (Zm Z Z (Zo Z Z Z (Zm Z Z ?_))))))))
        replace h := Zc h
        rcases h with ⟨hc6, h⟩ | ⟨hc6, h⟩
        ·
         obtain rfl := hq9.trans hc6
         refine lw_on Z Z Z Z Z Z (Zm Z Z (lw_on Z Z Z Z Z Z (ow_loadOwnA Z Z Z ho2 (Tryd.isAgg34 _) (Tryd.sizeOf34 _) Z ?_)))
         have hw2 : VRep RPacket w21 (Add g1 M) ({ From := x6.From, To := x6.To, Port := x6.Port, Proto := x6.Proto } : Packet) (.agg #[(.int .i64 x6.From), (.int .i64 x6.To), (.int .i64 x6.Port), (.int .i64 x6.Proto)]) := shut_Packet
         have lz10 := ((lz9.trans hl20).trans hl21)
         replace h := bind_some h
         obtain ⟨x7, hx7, h⟩ := h
         have lz11 := ((lz6.trans hl20).trans hl21)
         refine lw_on Z Z Z Z Z Z (Zk Z Z Tryd.call22 (w_impl_RegionHas (hG.mono lz11) hC21.old (VRep.mono lz10 hv6) hw2 hx7) fun v36 w22 hv36 => ?_)
         obtain ⟨hv36, hb9⟩ := hv36
         have hl22 := Le.no (Add g1 M) hb9
         have hC22 := hC21.no hb9
         have ho3 := ho2.no hb9
         obtain rfl := vbool_eq hv36
         refine lw_on Z Z Z Z Z Z (ow_not Z Z (lw_on Z Z Z Z Z Z (Zm Z Z ?_)))
         replace h := Zc h
         rcases h with ⟨hc7, h⟩ | ⟨hc7, h⟩
         ·
          subst hc7
          refine lw_on Z Z Z Z Z Z (Zm Z Z (lw_on Z Z Z Z Z Z (ow_loadOwnA Z Z Z ho3 (Tryd.isAgg34 _) (Tryd.sizeOf34 _) Z ?_)))
          have hw3 : VRep RPacket w22 (Add g1 M) ({ From := x6.From, To := x6.To, Port := x6.Port, Proto := x6.Proto } : Packet) (.agg #[(.int .i64 x6.From), (.int .i64 x6.To), (.int .i64 x6.Port), (.int .i64 x6.Proto)]) := shut_Packet
          have lz12 := ((hl20.trans hl21).trans hl22)
          replace h := bind_some h
          obtain ⟨x8, hx8, h⟩ := h
          refine lw_on Z Z Z Z Z Z (Zk Z Z Tryd.call22 (w_impl_RegionHas (hG.mono (lz11.trans hl22)) hC22.old (VRep.mono lz12 d31) hw3 hx8) fun v37 w23 hv37 => ?_)
          obtain ⟨hv37, hb10⟩ := hv37
          have hC23 := hC22.no hb10
          obtain rfl := vbool_eq hv37
          refine lw_on Z Z Z Z Z Z (ow_pickF Z Z Z (Zo Z Z Z (ow_pickT Z Z Z (Zo Z Z Z (Za Z Z (Zn (Ze (Zy ?_))))))))
          obtain rfl := sj h
          exact ew_ret (res1 Z (.tmp Z)) ⟨_, Z, ((vbool _)), hC23.bx⟩
         ·
          subst hc7
          refine lw_off Z Z Z Z Z Z (lw_off Z Z Z Z Z Z (lw_off Z Z Z Z Z Z (lw_on Z Z Z Z Z Z (ow_pickT Z Z Z (Zo Z Z Z (ow_pickT Z Z Z (Zo Z Z Z (Za Z Z (Zn (Ze (Zy ?_)))))))))))
          obtain rfl := sj h
          exact ew_ret (res1 Z (.tmp Z)) ⟨_, Z, ((vbool _)), hC22.bx⟩
        ·
         obtain rfl := hq9.trans hc6
         refine lw_off Z Z Z Z Z Z (lw_off Z Z Z Z Z Z (lw_off Z Z Z Z Z Z (lw_off Z Z Z Z Z Z (lw_off Z Z Z Z Z Z (lw_off' Z Z Z Z Z Z (lw_off' Z Z Z Z Z Z (lw_off' Z Z Z Z Z Z (lw_off Z Z Z Z Z Z (Zo Z Z Z (ow_pickF Z Z Z (Zo Z Z Z (Za Z Z (Zn (Ze (Zy ?_)))))))))))))))
         obtain rfl := sj h
         exact ew_ret (res1 Z (.tmp Z)) ⟨_, Z, ((vbool _)), hC21.bx⟩
     ·
      obtain rfl := hbb3.trans hc5
      refine Zt Z (cw_seq (Zr ?_))
      replace h := bind_some h
      obtain ⟨x9, hx9, h⟩ := h
      have lz13 := ((lz1.trans hl4).trans hl5)
      refine Zo Z Z Z (Zk Z Z Tryd.call13 (w_laws_alive (hG.mono lz13) hC5.old hx9) fun v38 w24 hv38 => ?_)
      obtain ⟨hv38, hb11⟩ := hv38
      have hC24 := hC5.no hb11
      obtain rfl := vbool_eq hv38
      refine Zo Z Z Z (Za Z Z (Zn (Ze (Zy (Zh ?_)))))
      obtain rfl := sj h
      exact ew_ret (res1 Z (.tmp Z)) ⟨_, Z, ((vbool _)), hC24.bx⟩
   ·
    subst hc3
    refine lw_off Z Z Z Z Z Z (lw_off Z Z Z Z Z Z (lw_off Z Z Z Z Z Z (Zo Z Z Z (ow_pickT Z Z Z (Zn (Ze (Zt Z (cw_seq (Zr (Zo Z Z Z (Za Z Z (Zn (Ze (Zy (Zh ?_)))))))))))))))
    obtain rfl := sj h
    exact ew_ret (res1 Z (.tmp Z)) ⟨_, Z, ((vbool _)), hC5.bx⟩


end Go.PF
