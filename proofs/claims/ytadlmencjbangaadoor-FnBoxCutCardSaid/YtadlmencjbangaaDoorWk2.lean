/- The walks; no condition. -/
import Derived.Test.YtadlmencjbangaaDoorProg
import Derived.Test.YtadlmencjbangaaDoorWk1
import Derived.Test.YtadlmencjbangaaDoorPFSeq
set_option maxRecDepth 100000
set_option maxHeartbeats 4000000
namespace Go.PF
open Go Go.RowKit Go.Proofs

theorem w_spec_TestValid {w : World} {M : Nat → Prop} (hG : ARep (RArr 4 RShape) w M shapes ⟨0, 0, none⟩) (hO : ∀ b, M b → b < w.heap.size) {v0p : Value} {a_t : Test} (h0 : VRep RTest w M a_t v0p) {r : Bool} (h : F.spec_TestValid a_t = some r) :
  Calls Tryd.prog 109 [v0p].toArray w fun e w' => ∃ v, e = .returned v ∧ VRep RBool w' M r v ∧ BX No w w' := by
 have hC : Cx No w M w M := Cx.start hO (fun _ e => e.elim)
 refine walk (N := 21) Tryd.func109 Z Tryd.ntmps109 Z (cw_seq (Zr (Zo Z Z Z (ow_box (R := RTest) Z Z h0 hC fun p1 w1 hp1 hb1 hl1 hC1 => Zo Z Z Z (Za Z Z (Zn (Ze (cw_seq ?_))))))))
 replace h := bind_some h
 obtain ⟨x1, hx1, h⟩ := h
 replace h := Zc h
 rcases h with ⟨hc1, h⟩ | ⟨hc1, h⟩
 ·
  subst hc1
  replace h := bind_some h
  obtain ⟨x2, hx2, h⟩ := h
  replace h := Zc h
  rcases h with ⟨hc2, h⟩ | ⟨hc2, h⟩
  ·
   subst hc2
   replace h := bind_some h
   obtain ⟨x3, hx3, h⟩ := h
   refine cw_sub (E' := [(1, (.pointer (some p1))), (2, (.bool false))]) ⟨Z, Z, Zt⟩ (cw_drawQ 16 [PA RInt M a_t.Field, PEq (Zv a_t.Field), PEq (.bool true), PEq (.bool true), PA RInt M a_t.Lo, PEq (Zv a_t.Lo), PA RInt M a_t.Hi, PEq (Zv a_t.Hi), PEq (.bool true), PEq (.bool true), PEq (.bool true), PA RInt M a_t.Hi, PEq (Zv a_t.Hi), PA RInt M a_t.Field, PEq (Zv a_t.Field), PEq (Zv x3)] (by kernel_rfl) Z (by kernel_rfl) ⟨PA.mono _ _ _, Zq, Zq, Zq, PA.mono _ _ _, Zq, PA.mono _ _ _, Zq, Zq, Zq, Zq, PA.mono _ _ _, Zq, PA.mono _ _ _, Zq, Zq, Zt⟩ ⟨?_, ?_, ?_, ?_, ?_, ?_, ?_, ?_, ?_, ?_, ?_, ?_, ?_, ?_, ?_, ?_, Zt⟩ ?_)
   ·
    intro w5 D hS1 hd1
    have hl5 := Le.no M hS1
    exact Zs (E' := [(1, (.pointer (some p1)))]) ⟨Z, Zt⟩ (Zp Z (Zf Z Z Tryd.underlying133 Z (Tryd.sizeOf3 _) ⟨BX.refl _ _, ⟨_, Z, (ARep.mono hl5 (hp1.fld fld_Test_Field))⟩⟩))
   ·
    intro w6 D hS2 hd2
    have d1 : PA RInt M a_t.Field (D 0) w6 := dpA hd2 0 Z
    obtain ⟨p2, e1, ha1⟩ := d1
    refine Zs (E' := [(3, (.pointer (some p2)))]) ⟨congrArg some e1, Zt⟩ (Zp Z (Zl (R := RInt) Z Z ha1 (Tryd.sizeOf3 _) (Tryd.isAgg3 _) fun v9 hv9 => ?_))
    obtain rfl := Zi hv9
    exact Zb
   ·
    intro w7 D hS3 hd3
    have hl7 := Le.no M hS3
    have hC7 := hC1.no hS3
    refine Zs (E' := [(4, (Zv a_t.Field))]) ⟨dpE hd3 1 Z Z, Zt⟩ (Zp Z (Zk Z Z Tryd.call76 (w_spec_l1In (hG.mono (hl1.trans hl7)) hC7.old hx1) fun v10 w8 hv10 => ?_))
    obtain ⟨hv10, hb5⟩ := hv10
    obtain rfl := vbool_eq hv10
    exact ⟨hb5, Z⟩
   · exact fun w9 D hS4 hd4 => Zs (E' := [(5, (.bool true))]) ⟨dpE hd4 2 Z Z, Zt⟩ (Zp Z (Zm Z Z Zb))
   ·
    intro w10 D hS5 hd5
    have hl10 := Le.no M hS5
    exact Zs (E' := [(6, (.bool true)), (1, (.pointer (some p1)))]) ⟨dpE hd5 3 Z Z, Z, Zt⟩ (dg_on Z Z Z Z (Zf Z Z Tryd.underlying133 Z (Tryd.sizeOf3 _) ⟨BX.refl _ _, ⟨_, Z, (ARep.mono hl10 (hp1.fld fld_Test_Lo))⟩⟩))
   ·
    intro w11 D hS6 hd6
    have d6 : PA RInt M a_t.Lo (D 4) w11 := dpA hd6 4 Z
    obtain ⟨p3, e2, ha2⟩ := d6
    refine Zs (E' := [(7, (.pointer (some p3))), (6, (.bool true))]) ⟨congrArg some e2, dpE hd6 3 Z Z, Zt⟩ (dg_on Z Z Z Z (Zl (R := RInt) Z Z ha2 (Tryd.sizeOf3 _) (Tryd.isAgg3 _) fun v11 hv11 => ?_))
    obtain rfl := Zi hv11
    exact Zb
   ·
    intro w12 D hS7 hd7
    have hl12 := Le.no M hS7
    exact Zs (E' := [(6, (.bool true)), (1, (.pointer (some p1)))]) ⟨dpE hd7 3 Z Z, Z, Zt⟩ (dg_on Z Z Z Z (Zf Z Z Tryd.underlying133 Z (Tryd.sizeOf3 _) ⟨BX.refl _ _, ⟨_, Z, (ARep.mono hl12 (hp1.fld fld_Test_Hi))⟩⟩))
   ·
    intro w13 D hS8 hd8
    have d9 : PA RInt M a_t.Hi (D 6) w13 := dpA hd8 6 Z
    obtain ⟨p4, e3, ha3⟩ := d9
    refine Zs (E' := [(9, (.pointer (some p4))), (6, (.bool true))]) ⟨congrArg some e3, dpE hd8 3 Z Z, Zt⟩ (dg_on Z Z Z Z (Zl (R := RInt) Z Z ha3 (Tryd.sizeOf3 _) (Tryd.isAgg3 _) fun v12 hv12 => ?_))
    obtain rfl := Zi hv12
    exact Zb
   ·
    intro w14 D hS9 hd9
    have hl14 := Le.no M hS9
    have hC14 := hC1.no hS9
    refine Zs (E' := [(8, (Zv a_t.Lo)), (10, (Zv a_t.Hi)), (6, (.bool true))]) ⟨dpE hd9 5 Z Z, dpE hd9 7 Z Z, dpE hd9 3 Z Z, Zt⟩ (dg_on Z Z Z Z (Zk Z Z Tryd.call76 (w_spec_l1In (hG.mono (hl1.trans hl14)) hC14.old hx2) fun v13 w15 hv13 => ?_))
    obtain ⟨hv13, hb6⟩ := hv13
    obtain rfl := vbool_eq hv13
    exact ⟨hb6, Z⟩
   · exact fun w16 D hS10 hd10 => Zs (E' := [(6, (.bool true)), (11, (.bool true))]) ⟨dpE hd10 3 Z Z, dpE hd10 8 Z Z, Zt⟩ (Zp Z (ow_pickT Z Z Z Zb))
   · exact fun w17 D hS11 hd11 => Zs (E' := [(12, (.bool true))]) ⟨dpE hd11 9 Z Z, Zt⟩ (Zp Z (Zm Z Z Zb))
   ·
    intro w18 D hS12 hd12
    have hl18 := Le.no M hS12
    exact Zs (E' := [(13, (.bool true)), (1, (.pointer (some p1)))]) ⟨dpE hd12 10 Z Z, Z, Zt⟩ (dg_on Z Z Z Z (Zf Z Z Tryd.underlying133 Z (Tryd.sizeOf3 _) ⟨BX.refl _ _, ⟨_, Z, (ARep.mono hl18 (hp1.fld fld_Test_Hi))⟩⟩))
   ·
    intro w19 D hS13 hd13
    have d20 : PA RInt M a_t.Hi (D 11) w19 := dpA hd13 11 Z
    obtain ⟨p5, e4, ha4⟩ := d20
    refine Zs (E' := [(14, (.pointer (some p5))), (13, (.bool true))]) ⟨congrArg some e4, dpE hd13 10 Z Z, Zt⟩ (dg_on Z Z Z Z (Zl (R := RInt) Z Z ha4 (Tryd.sizeOf3 _) (Tryd.isAgg3 _) fun v14 hv14 => ?_))
    obtain rfl := Zi hv14
    exact Zb
   ·
    intro w20 D hS14 hd14
    have hl20 := Le.no M hS14
    exact Zs (E' := [(13, (.bool true)), (1, (.pointer (some p1)))]) ⟨dpE hd14 10 Z Z, Z, Zt⟩ (dg_on Z Z Z Z (Zf Z Z Tryd.underlying133 Z (Tryd.sizeOf3 _) ⟨BX.refl _ _, ⟨_, Z, (ARep.mono hl20 (hp1.fld fld_Test_Field))⟩⟩))
   ·
    intro w21 D hS15 hd15
    have d23 : PA RInt M a_t.Field (D 13) w21 := dpA hd15 13 Z
    obtain ⟨p6, e5, ha5⟩ := d23
    refine Zs (E' := [(16, (.pointer (some p6))), (13, (.bool true))]) ⟨congrArg some e5, dpE hd15 10 Z Z, Zt⟩ (dg_on Z Z Z Z (Zl (R := RInt) Z Z ha5 (Tryd.sizeOf3 _) (Tryd.isAgg3 _) fun v15 hv15 => ?_))
    obtain rfl := Zi hv15
    exact Zb
   ·
    intro w22 D hS16 hd16
    have hl22 := Le.no M hS16
    have hC22 := hC1.no hS16
    refine Zs (E' := [(17, (Zv a_t.Field)), (13, (.bool true))]) ⟨dpE hd16 14 Z Z, dpE hd16 10 Z Z, Zt⟩ (dg_on Z Z Z Z (Zk Z Z Tryd.call39 (w_spec_FieldTop (hG.mono (hl1.trans hl22)) hC22.old hx3) fun v16 w23 hv16 => ?_))
    obtain ⟨hv16, hb7⟩ := hv16
    obtain rfl := Zi hv16
    exact ⟨hb7, Z⟩
   ·
    intro w24 D hS17 hd17
    have hC24 := hC1.no hS17
    refine lw_sub (E' := [(13, (.bool true)), (15, (Zv a_t.Hi)), (18, (Zv x3)), (1, (.pointer (some p1))), (2, (.bool false))]) ⟨dpE hd17 10 Z Z, dpE hd17 12 Z Z, dpE hd17 15 Z Z, Z, Z, Zt⟩ (lw_on Z Z Z Z Z Z (ow_leq Z Z Z fun bb1 hbb1 => Zo Z Z Z (ow_pickT Z Z Z (Zo Z Z Z (Za Z Z (Zn (Ze (Zy ?_))))))))
    obtain rfl := sj h
    exact ew_ret (res1 Z (.tmp Z)) ⟨_, Z, ((vbool_of hbb1)), hC24.bx⟩
  ·
   subst hc2
   refine cw_sub (E' := [(1, (.pointer (some p1))), (2, (.bool false))]) ⟨Z, Z, Zt⟩ (cw_drawQ 16 [PA RInt M a_t.Field, PEq (Zv a_t.Field), PEq (.bool true), PEq (.bool true), PA RInt M a_t.Lo, PEq (Zv a_t.Lo), PA RInt M a_t.Hi, PEq (Zv a_t.Hi), PEq (.bool false), PEq (.bool false), PEq (.bool false), PEq undef, PEq undef, PEq undef, PEq undef, PEq undef] (by kernel_rfl) Z (by kernel_rfl) ⟨PA.mono _ _ _, Zq, Zq, Zq, PA.mono _ _ _, Zq, PA.mono _ _ _, Zq, Zq, Zq, Zq, Zq, Zq, Zq, Zq, Zq, Zt⟩ ⟨?_, ?_, ?_, ?_, ?_, ?_, ?_, ?_, ?_, ?_, ?_, ?_, ?_, ?_, ?_, ?_, Zt⟩ ?_)
   ·
    intro w25 D hS18 hd18
    have hl25 := Le.no M hS18
    exact Zs (E' := [(1, (.pointer (some p1)))]) ⟨Z, Zt⟩ (Zp Z (Zf Z Z Tryd.underlying133 Z (Tryd.sizeOf3 _) ⟨BX.refl _ _, ⟨_, Z, (ARep.mono hl25 (hp1.fld fld_Test_Field))⟩⟩))
   ·
    intro w26 D hS19 hd19
    have d44 : PA RInt M a_t.Field (D 0) w26 := dpA hd19 0 Z
    obtain ⟨p7, e6, ha6⟩ := d44
    refine Zs (E' := [(3, (.pointer (some p7)))]) ⟨congrArg some e6, Zt⟩ (Zp Z (Zl (R := RInt) Z Z ha6 (Tryd.sizeOf3 _) (Tryd.isAgg3 _) fun v17 hv17 => ?_))
    obtain rfl := Zi hv17
    exact Zb
   ·
    intro w27 D hS20 hd20
    have hl27 := Le.no M hS20
    have hC27 := hC1.no hS20
    refine Zs (E' := [(4, (Zv a_t.Field))]) ⟨dpE hd20 1 Z Z, Zt⟩ (Zp Z (Zk Z Z Tryd.call76 (w_spec_l1In (hG.mono (hl1.trans hl27)) hC27.old hx1) fun v18 w28 hv18 => ?_))
    obtain ⟨hv18, hb8⟩ := hv18
    obtain rfl := vbool_eq hv18
    exact ⟨hb8, Z⟩
   · exact fun w29 D hS21 hd21 => Zs (E' := [(5, (.bool true))]) ⟨dpE hd21 2 Z Z, Zt⟩ (Zp Z (Zm Z Z Zb))
   ·
    intro w30 D hS22 hd22
    have hl30 := Le.no M hS22
    exact Zs (E' := [(6, (.bool true)), (1, (.pointer (some p1)))]) ⟨dpE hd22 3 Z Z, Z, Zt⟩ (dg_on Z Z Z Z (Zf Z Z Tryd.underlying133 Z (Tryd.sizeOf3 _) ⟨BX.refl _ _, ⟨_, Z, (ARep.mono hl30 (hp1.fld fld_Test_Lo))⟩⟩))
   ·
    intro w31 D hS23 hd23
    have d49 : PA RInt M a_t.Lo (D 4) w31 := dpA hd23 4 Z
    obtain ⟨p8, e7, ha7⟩ := d49
    refine Zs (E' := [(7, (.pointer (some p8))), (6, (.bool true))]) ⟨congrArg some e7, dpE hd23 3 Z Z, Zt⟩ (dg_on Z Z Z Z (Zl (R := RInt) Z Z ha7 (Tryd.sizeOf3 _) (Tryd.isAgg3 _) fun v19 hv19 => ?_))
    obtain rfl := Zi hv19
    exact Zb
   ·
    intro w32 D hS24 hd24
    have hl32 := Le.no M hS24
    exact Zs (E' := [(6, (.bool true)), (1, (.pointer (some p1)))]) ⟨dpE hd24 3 Z Z, Z, Zt⟩ (dg_on Z Z Z Z (Zf Z Z Tryd.underlying133 Z (Tryd.sizeOf3 _) ⟨BX.refl _ _, ⟨_, Z, (ARep.mono hl32 (hp1.fld fld_Test_Hi))⟩⟩))
   ·
    intro w33 D hS25 hd25
    have d52 : PA RInt M a_t.Hi (D 6) w33 := dpA hd25 6 Z
    obtain ⟨p9, e8, ha8⟩ := d52
    refine Zs (E' := [(9, (.pointer (some p9))), (6, (.bool true))]) ⟨congrArg some e8, dpE hd25 3 Z Z, Zt⟩ (dg_on Z Z Z Z (Zl (R := RInt) Z Z ha8 (Tryd.sizeOf3 _) (Tryd.isAgg3 _) fun v20 hv20 => ?_))
    obtain rfl := Zi hv20
    exact Zb
   ·
    intro w34 D hS26 hd26
    have hl34 := Le.no M hS26
    have hC34 := hC1.no hS26
    refine Zs (E' := [(8, (Zv a_t.Lo)), (10, (Zv a_t.Hi)), (6, (.bool true))]) ⟨dpE hd26 5 Z Z, dpE hd26 7 Z Z, dpE hd26 3 Z Z, Zt⟩ (dg_on Z Z Z Z (Zk Z Z Tryd.call76 (w_spec_l1In (hG.mono (hl1.trans hl34)) hC34.old hx2) fun v21 w35 hv21 => ?_))
    obtain ⟨hv21, hb9⟩ := hv21
    obtain rfl := vbool_eq hv21
    exact ⟨hb9, Z⟩
   · exact fun w36 D hS27 hd27 => Zs (E' := [(6, (.bool true)), (11, (.bool false))]) ⟨dpE hd27 3 Z Z, dpE hd27 8 Z Z, Zt⟩ (Zp Z (ow_pickT Z Z Z Zb))
   · exact fun w37 D hS28 hd28 => Zs (E' := [(12, (.bool false))]) ⟨dpE hd28 9 Z Z, Zt⟩ (Zp Z (Zm Z Z Zb))
   · exact fun w38 D hS29 hd29 => Zs (E' := [(13, (.bool false)), (1, (.pointer (some p1)))]) ⟨dpE hd29 10 Z Z, Z, Zt⟩ (dg_off Z Z Z Z Zb)
   · exact fun w39 D hS30 hd30 => Zs (E' := [(14, undef), (13, (.bool false))]) ⟨dpE hd30 11 Z Z, dpE hd30 10 Z Z, Zt⟩ (dg_off Z Z Z Z Zb)
   · exact fun w40 D hS31 hd31 => Zs (E' := [(13, (.bool false)), (1, (.pointer (some p1)))]) ⟨dpE hd31 10 Z Z, Z, Zt⟩ (dg_off Z Z Z Z Zb)
   · exact fun w41 D hS32 hd32 => Zs (E' := [(16, undef), (13, (.bool false))]) ⟨dpE hd32 13 Z Z, dpE hd32 10 Z Z, Zt⟩ (dg_off Z Z Z Z Zb)
   · exact fun w42 D hS33 hd33 => Zs (E' := [(17, undef), (13, (.bool false))]) ⟨dpE hd33 14 Z Z, dpE hd33 10 Z Z, Zt⟩ (dg_off Z Z Z Z Zb)
   ·
    intro w43 D hS34 hd34
    have hC43 := hC1.no hS34
    refine lw_sub (E' := [(13, (.bool false)), (15, undef), (18, undef), (1, (.pointer (some p1))), (2, (.bool false))]) ⟨dpE hd34 10 Z Z, dpE hd34 12 Z Z, dpE hd34 15 Z Z, Z, Z, Zt⟩ (lw_off Z Z Z Z Z Z (Zo Z Z Z (ow_pickF Z Z Z (Zo Z Z Z (Za Z Z (Zn (Ze (Zy ?_))))))))
    obtain rfl := sj h
    exact ew_ret (res1 Z (.tmp Z)) ⟨_, Z, ((vbool _)), hC43.bx⟩
 ·
  subst hc1
  refine cw_sub (E' := [(1, (.pointer (some p1))), (2, (.bool false))]) ⟨Z, Z, Zt⟩ (cw_drawQ 16 [PA RInt M a_t.Field, PEq (Zv a_t.Field), PEq (.bool false), PEq (.bool false), PEq undef, PEq undef, PEq undef, PEq undef, PEq undef, PEq (.bool false), PEq (.bool false), PEq undef, PEq undef, PEq undef, PEq undef, PEq undef] (by kernel_rfl) Z (by kernel_rfl) ⟨PA.mono _ _ _, Zq, Zq, Zq, Zq, Zq, Zq, Zq, Zq, Zq, Zq, Zq, Zq, Zq, Zq, Zq, Zt⟩ ⟨?_, ?_, ?_, ?_, ?_, ?_, ?_, ?_, ?_, ?_, ?_, ?_, ?_, ?_, ?_, ?_, Zt⟩ ?_)
  ·
   intro w44 D hS35 hd35
   have hl44 := Le.no M hS35
   exact Zs (E' := [(1, (.pointer (some p1)))]) ⟨Z, Zt⟩ (Zp Z (Zf Z Z Tryd.underlying133 Z (Tryd.sizeOf3 _) ⟨BX.refl _ _, ⟨_, Z, (ARep.mono hl44 (hp1.fld fld_Test_Field))⟩⟩))
  ·
   intro w45 D hS36 hd36
   have d87 : PA RInt M a_t.Field (D 0) w45 := dpA hd36 0 Z
   obtain ⟨p10, e9, ha9⟩ := d87
   refine Zs (E' := [(3, (.pointer (some p10)))]) ⟨congrArg some e9, Zt⟩ (Zp Z (Zl (R := RInt) Z Z ha9 (Tryd.sizeOf3 _) (Tryd.isAgg3 _) fun v22 hv22 => ?_))
   obtain rfl := Zi hv22
   exact Zb
  ·
   intro w46 D hS37 hd37
   have hl46 := Le.no M hS37
   have hC46 := hC1.no hS37
   refine Zs (E' := [(4, (Zv a_t.Field))]) ⟨dpE hd37 1 Z Z, Zt⟩ (Zp Z (Zk Z Z Tryd.call76 (w_spec_l1In (hG.mono (hl1.trans hl46)) hC46.old hx1) fun v23 w47 hv23 => ?_))
   obtain ⟨hv23, hb10⟩ := hv23
   obtain rfl := vbool_eq hv23
   exact ⟨hb10, Z⟩
  · exact fun w48 D hS38 hd38 => Zs (E' := [(5, (.bool false))]) ⟨dpE hd38 2 Z Z, Zt⟩ (Zp Z (Zm Z Z Zb))
  · exact fun w49 D hS39 hd39 => Zs (E' := [(6, (.bool false)), (1, (.pointer (some p1)))]) ⟨dpE hd39 3 Z Z, Z, Zt⟩ (dg_off Z Z Z Z Zb)
  · exact fun w50 D hS40 hd40 => Zs (E' := [(7, undef), (6, (.bool false))]) ⟨dpE hd40 4 Z Z, dpE hd40 3 Z Z, Zt⟩ (dg_off Z Z Z Z Zb)
  · exact fun w51 D hS41 hd41 => Zs (E' := [(6, (.bool false)), (1, (.pointer (some p1)))]) ⟨dpE hd41 3 Z Z, Z, Zt⟩ (dg_off Z Z Z Z Zb)
  · exact fun w52 D hS42 hd42 => Zs (E' := [(9, undef), (6, (.bool false))]) ⟨dpE hd42 6 Z Z, dpE hd42 3 Z Z, Zt⟩ (dg_off Z Z Z Z Zb)
  · exact fun w53 D hS43 hd43 => Zs (E' := [(8, undef), (10, undef), (6, (.bool false))]) ⟨dpE hd43 5 Z Z, dpE hd43 7 Z Z, dpE hd43 3 Z Z, Zt⟩ (dg_off Z Z Z Z Zb)
  · exact fun w54 D hS44 hd44 => Zs (E' := [(6, (.bool false)), (11, undef)]) ⟨dpE hd44 3 Z Z, dpE hd44 8 Z Z, Zt⟩ (Zp Z (ow_pickF Z Z Z Zb))
  · exact fun w55 D hS45 hd45 => Zs (E' := [(12, (.bool false))]) ⟨dpE hd45 9 Z Z, Zt⟩ (Zp Z (Zm Z Z Zb))
  · exact fun w56 D hS46 hd46 => Zs (E' := [(13, (.bool false)), (1, (.pointer (some p1)))]) ⟨dpE hd46 10 Z Z, Z, Zt⟩ (dg_off Z Z Z Z Zb)
  · exact fun w57 D hS47 hd47 => Zs (E' := [(14, undef), (13, (.bool false))]) ⟨dpE hd47 11 Z Z, dpE hd47 10 Z Z, Zt⟩ (dg_off Z Z Z Z Zb)
  · exact fun w58 D hS48 hd48 => Zs (E' := [(13, (.bool false)), (1, (.pointer (some p1)))]) ⟨dpE hd48 10 Z Z, Z, Zt⟩ (dg_off Z Z Z Z Zb)
  · exact fun w59 D hS49 hd49 => Zs (E' := [(16, undef), (13, (.bool false))]) ⟨dpE hd49 13 Z Z, dpE hd49 10 Z Z, Zt⟩ (dg_off Z Z Z Z Zb)
  · exact fun w60 D hS50 hd50 => Zs (E' := [(17, undef), (13, (.bool false))]) ⟨dpE hd50 14 Z Z, dpE hd50 10 Z Z, Zt⟩ (dg_off Z Z Z Z Zb)
  ·
   intro w61 D hS51 hd51
   have hC61 := hC1.no hS51
   refine lw_sub (E' := [(13, (.bool false)), (15, undef), (18, undef), (1, (.pointer (some p1))), (2, (.bool false))]) ⟨dpE hd51 10 Z Z, dpE hd51 12 Z Z, dpE hd51 15 Z Z, Z, Z, Zt⟩ (lw_off Z Z Z Z Z Z (Zo Z Z Z (ow_pickF Z Z Z (Zo Z Z Z (Za Z Z (Zn (Ze (Zy ?_))))))))
   obtain rfl := sj h
   exact ew_ret (res1 Z (.tmp Z)) ⟨_, Z, ((vbool _)), hC61.bx⟩

theorem w_spec_TestsValid {w : World} {M : Nat → Prop} (hG : ARep (RArr 4 RShape) w M shapes ⟨0, 0, none⟩) (hO : ∀ b, M b → b < w.heap.size) {v0p : Value} {a_list : List Test} (h0 : VRep (RSlice RTest) w M a_list v0p) {r : Bool} (h : F.spec_TestsValid a_list = some r) :
  Calls Tryd.prog 101 [v0p].toArray w fun e w' => ∃ v, e = .returned v ∧ VRep RBool w' M r v ∧ BX No w w' := by
 have hC : Cx No w M w M := Cx.start hO (fun _ e => e.elim)
 refine walk (N := 19) Tryd.func101 Z Tryd.ntmps101 Z (cw_seq (Zr (Zo Z Z Z (Za Z Z (Zn (Ze (cw_seq (cw_seq (Zr (Zo Z Z Z (Za Z Z (Zn (Ze ?_)))))))))))))
 replace h := bind_some h
 obtain ⟨lr1, hlr1, h⟩ := h
 refine cw_for hlr1 (fun s a w' => ∃ (M' : Nat → Prop), Fits 19 [(0, v0p), (3, (Zv s))] a ∧ Le w M w' M' ∧ Cx No w M w' M') ?_ ?_ ?_
 · exact fun a ha => ⟨M, ha.sub ⟨Z, Z, Zt⟩, Le.refl _ _, hC⟩
 ·
  rintro k1 a w1 sr1 ⟨M1, hF1, hl1, hC1⟩ hb1 hR1
  refine cw_at (E := [(0, v0p), (3, (Zv k1))]) hF1 (cw_seq (cw_seq (Zr (Zo Z Z Z (Zm Z Z (Zo Z Z Z (Zm Z Z (Zo Z Z Z (ow_len Z Z (VRep.mono hl1 h0) Tryd.underlying113 Z (Zo Z Z Z (ow_lss Z Z Z fun bb1 hbb1 => Zn (Ze ?_))))))))))))
  replace hb1 := Zc hb1
  rcases hb1 with ⟨hc1, hb1⟩ | ⟨hc1, hb1⟩
  ·
   obtain rfl := hbb1.trans hc1
   refine cw_true Z (cw_skip (Ze (cw_seq (cw_block (cw_seq (Zr (Zo Z Z Z (Zm Z Z (Zo Z Z Z (Zm Z Z ?_))))))))))
   replace hb1 := bind_some hb1
   obtain ⟨x1, hx1, hb1⟩ := hb1
   refine Zo Z Z Z (Zx (R := RTest) Z Z Z (VRep.mono hl1 h0) Tryd.underlying113 (Tryd.sizeOf133 _) hx1 fun p1 hp1 => Zo Z Z Z (Zl (R := RTest) Z Z hp1 (Tryd.sizeOf133 _) (Tryd.isAgg133 _) fun v2 hv2 => ?_))
   replace hb1 := bind_some hb1
   obtain ⟨x2, hx2, hb1⟩ := hb1
   refine Zo Z Z Z (Zk Z Z Tryd.call109 (w_spec_TestValid (hG.mono hl1) hC1.old hv2 hx2) fun v3 w2 hv3 => ?_)
   obtain ⟨hv3, hb2⟩ := hv3
   have hl2 := Le.no M1 hb2
   have hC2 := hC1.no hb2
   obtain rfl := vbool_eq hv3
   refine Zo Z Z Z (ow_not Z Z (Zn (Ze ?_)))
   replace hb1 := Zc hb1
   rcases hb1 with ⟨hc2, hb1⟩ | ⟨hc2, hb1⟩
   ·
    subst hc2
    exact Zu Z (cw_skip (ew_blockN (Ze (Zr (Zo Z Z Z (Zm Z Z (Zo Z Z Z (ow_add Z Z Z (Zo Z Z Z (Za Z Z (Zn (ew_nxt (W (k1 + 1)) hb1 fun a ha => ⟨M1, (ha.sub ⟨Z, Z, Zt⟩), (hl1.trans hl2), hC2⟩))))))))))))
   ·
    subst hc2
    refine cw_true Z (cw_seq (Zr (Zo Z Z Z (Za Z Z (Zn (Ze (Zy (ew_blockR (Zh (Zh (ew_blockR (ew_brkR (Zh ?_)))))))))))))
    have e1 := hR1 _ (sj hb1).symm
    subst e1
    obtain rfl := sj h
    exact ew_ret (res1 Z (.tmp Z)) ⟨_, Z, ((vbool _)), hC2.bx⟩
  ·
   obtain rfl := hbb1.trans hc1
   exact Zu Z (cw_exit (ew_thenX (ew_thenX (ew_blockX (ew_brk k1 hb1 fun a ha => ⟨M1, (ha.sub ⟨Z, Z, Zt⟩), hl1, hC1⟩)))))
 ·
  rintro k2 a w3 hlr2 ⟨M2, hF2, hl3, hC3⟩
  subst hlr2
  refine ew_at (E := [(0, v0p), (3, (Zv k2))]) hF2 (Ze (cw_seq (Zr (Zo Z Z Z (Zm Z Z (Zo Z Z Z (ow_len Z Z (VRep.mono hl3 h0) Tryd.underlying113 Z (Zo Z Z Z (ow_leq Z Z Z fun bb2 hbb2 => Zo Z Z Z (Za Z Z (Zn (Ze (Zy ?_)))))))))))))
  obtain rfl := sj h
  exact ew_ret (res1 Z (.tmp Z)) ⟨_, Z, ((vbool_of hbb2)), hC3.bx⟩

theorem w_spec_TestSpans {w : World} {M : Nat → Prop} (hG : ARep (RArr 4 RShape) w M shapes ⟨0, 0, none⟩) (hO : ∀ b, M b → b < w.heap.size) {v0p : Value} {a_t : Test} (h0 : VRep RTest w M a_t v0p) {r : (List Span)} (h : F.spec_TestSpans a_t = some r) :
  Calls Tryd.prog 102 [v0p].toArray w fun e w' => ∃ v, e = .returned v ∧ VRep (RSlice RSpan) w' M r v ∧ BX No w w' := by
 have hC : Cx No w M w M := Cx.start hO (fun _ e => e.elim)
 refine walk (N := 22) Tryd.func102 Z Tryd.ntmps102 Z (cw_seq (Zr (Zo Z Z Z (ow_box (R := RTest) Z Z h0 hC fun p1 w1 hp1 hb1 hl1 hC1 => Zo Z Z Z (Za Z Z (Zn (Ze (cw_seq (cw_seq (Zr (Zo Z Z Z (Zl (R := RTest) Z Z hp1 (Tryd.sizeOf133 _) (Tryd.isAgg133 _) fun v1 hv1 => ?_))))))))))))
 replace h := bind_some h
 obtain ⟨x1, hx1, h⟩ := h
 refine Zo Z Z Z (Zk Z Z Tryd.call109 (w_spec_TestValid (hG.mono hl1) hC1.old hv1 hx1) fun v2 w2 hv2 => ?_)
 obtain ⟨hv2, hb2⟩ := hv2
 have hl2 := Le.no M hb2
 have hC2 := hC1.no hb2
 obtain rfl := vbool_eq hv2
 refine Zo Z Z Z (ow_not Z Z (Zn (Ze ?_)))
 replace h := Zc h
 rcases h with ⟨hc1, h⟩ | ⟨hc1, h⟩
 ·
  subst hc1
  refine Zu Z (cw_skip (Ze (cw_seq (Zr (Zo Z Z Z (Zf Z Z Tryd.underlying133 Z (Tryd.sizeOf3 _) (Zo Z Z Z (Zl (R := RInt) Z Z (ARep.mono hl2 (hp1.fld fld_Test_Lo)) (Tryd.sizeOf3 _) (Tryd.isAgg3 _) fun v3 hv3 => ?_))))))))
  obtain rfl := Zi hv3
  refine Zo Z Z Z (Zf Z Z Tryd.underlying133 Z (Tryd.sizeOf3 _) (Zo Z Z Z (Zl (R := RInt) Z Z (ARep.mono hl2 (hp1.fld fld_Test_Hi)) (Tryd.sizeOf3 _) (Tryd.isAgg3 _) fun v4 hv4 => ?_)))
  obtain rfl := Zi hv4
  refine Zo Z Z Z (ow_build (v := .agg #[(Zv a_t.Lo), (Zv a_t.Hi)]) Z Z (by kernel_rfl) ?_)
  have hw1 : VRep RSpan w2 M ({ Lo := a_t.Lo, Hi := a_t.Hi } : Span) (.agg #[(Zv a_t.Lo), (Zv a_t.Hi)]) := shut_Span
  refine Zo Z Z Z (ow_buildSlice (R := RSpan) (xs := [({ Lo := a_t.Lo, Hi := a_t.Hi } : Span)]) (cs := #[(Zv a_t.Lo), (Zv a_t.Hi)]) (e := 69) Z Z (by kernel_rfl) Z Z ⟨_, _, Z, hw1.cells, Z⟩ hC2 fun p2 w3 hw2 hb3 hl3 hC3 => Zo Z Z Z (Za Z Z (Zn (Ze (cw_seq (cw_seq (Zr (Zo Z Z Z (Zf Z Z Tryd.underlying133 Z (Tryd.sizeOf4 _) (Zo Z Z Z (Zl (R := RBool) Z Z (ARep.mono (hl2.trans hl3) (hp1.fld fld_Test_Not)) (Tryd.sizeOf4 _) (Tryd.isAgg4 _) fun v5 hv5 => ?_)))))))))))
  obtain ⟨bb1, hbb1, rfl⟩ := vbool_ex hv5
  refine Zn (Ze ?_)
  replace h := Zc h
  rcases h with ⟨hc2, h⟩ | ⟨hc2, h⟩
  ·
   obtain rfl := hbb1.trans hc2
   refine cw_true Z (cw_seq (Zr (Zo Z Z Z (Zm Z Z (Zo Z Z Z (Zf Z Z Tryd.underlying133 Z (Tryd.sizeOf3 _) (Zo Z Z Z (Zl (R := RInt) Z Z (ARep.mono (hl2.trans hl3) (hp1.fld fld_Test_Field)) (Tryd.sizeOf3 _) (Tryd.isAgg3 _) fun v6 hv6 => ?_))))))))
   obtain rfl := Zi hv6
   replace h := bind_some h
   obtain ⟨x2, hx2, h⟩ := h
   have lz1 := ((hl1.trans hl2).trans hl3)
   refine Zo Z Z Z (Zk Z Z Tryd.call39 (w_spec_FieldTop (hG.mono lz1) hC3.old hx2) fun v7 w4 hv7 => ?_)
   obtain ⟨hv7, hb4⟩ := hv7
   have hl4 := Le.no M hb4
   have hC4 := hC3.no hb4
   obtain rfl := Zi hv7
   replace h := bind_some h
   obtain ⟨x3, hx3, h⟩ := h
   refine Zo Z Z Z (Zk Z Z Tryd.call75 (w_spec_l2Other (hG.mono (lz1.trans hl4)) hC4.old (VRep.mono hl4 hw2) hx3) fun v8 w5 hv8 => ?_)
   obtain ⟨hv8, hb5⟩ := hv8
   have hC5 := hC4.no hb5
   refine Zo Z Z Z (Za Z Z (Zn (Ze (Zy (Zh ?_)))))
   obtain rfl := sj h
   exact ew_ret (res1 Z (.tmp Z)) ⟨_, Z, (VRep.mono hC5.back hv8), hC5.bx⟩
  ·
   obtain rfl := hbb1.trans hc2
   refine Zu Z (cw_skip (Ze (cw_seq (Zr (Zo Z Z Z (Zm Z Z (Zo Z Z Z (Za Z Z (Zn (Ze (Zy ?_)))))))))))
   obtain rfl := sj h
   exact ew_ret (res1 Z (.tmp Z)) ⟨_, Z, (VRep.mono hC3.back hw2), hC3.bx⟩
 ·
  subst hc1
  refine cw_true Z (cw_seq (Zr (Zo Z Z Z (ow_buildSlice0I (R := RSpan) (e := 69) Z (by kernel_rfl) hC2 fun p3 w6 hw3 hb6 hl6 hC6 => Zo Z Z Z (Za Z Z (Zn (Ze (Zy (Zh ?_)))))))))
  obtain rfl := sj h
  exact ew_ret (res1 Z (.tmp Z)) ⟨_, Z, (VRep.mono hC6.back hw3), hC6.bx⟩

theorem wo_spec_BoxAll {w : World} {M : Nat → Prop} (hG : ARep (RArr 4 RShape) w M shapes ⟨0, 0, none⟩) (hO : ∀ b, M b → b < w.heap.size)  {r : Box} (h : F.spec_BoxAll = some r) :
  Calls Tryd.prog 65 [].toArray w fun e w' => ∃ v, e = .returned v ∧ (∃ M' u, v = .agg #[u] ∧ OwnRow (RSlice RSpan) w.heap.size 59 w' M' r.Sides u ∧ Cx No w M w' M') ∧ BX No w w' := by
 obtain ⟨i59, hi59, hz59, hs59, hy59⟩ := info59
 have hC : Cx No w M w M := Cx.start hO (fun _ e => e.elim)
 refine walk (N := 18) Tryd.func65 Z Tryd.ntmps65 Z (cw_seq (Zr (Zo Z Z Z (ow_alloc Z (Tryd.zeroValue25 _) hC fun g1 w1 hg1 hg2 ho1 hb1 hl1 hC1 => ?_))))
 have hm1 : (Add g1 M) g1 := .inl Z
 refine Zn (Ze (cw_seq (Zr (Zo Z Z Z (ow_build (v := .agg #[(.slice none 0 0)]) Z Z (by kernel_rfl) (Zo Z Z Z (ow_alloc Z (Tryd.zeroValue25 _) hC1 fun g2 w2 hg3 hg4 ho2 hb2 hl2 hC2 => ?_)))))))
 have hn1 := Nat.ne_of_lt (Nat.lt_of_lt_of_le ho1.lt hg3)
 have ho3 := ho1.no hb2
 have hm2 : (Add g2 (Add g1 M)) g1 := .inr hm1
 have hm3 : (Add g2 (Add g1 M)) g2 := .inl Z
 refine lw_op0 Z Z (ow_store (X := No) (us := [(.slice none 0 0)]) (cs' := #[(.slice none 0 0)]) Z Z Z Z ho2 (Tryd.sizeOf25 _) Z Z Z Z hm3 (.inl hg4) Z hC2 fun w3 ho4 hb3 hl3 hC3 => ?_)
 have ho5 := ho3.go hb3 (fun e => hn1 e)
 refine Zn (Ze (cw_seq (cw_seq (Zr (Zo Z Z Z (Za Z Z (Zn (Ze ?_))))))))
 have hr1 : OwnRow (RSlice RSpan) w.heap.size 59 w3 (Add g2 (Add g1 M)) ([] : List (List Span)) (.slice none 0 0) := ownrow_nil
 replace h := bind_some h
 obtain ⟨lr1, hlr1, h⟩ := h
 refine cw_for hlr1 (fun s a w' => ∃ (M' : Nat → Prop) (v1c : Value), Fits 18 [(0, (Zw g1 0)), (1, (Zw g2 0)), (2, (Zv s.1))] a ∧ Le w3 (Add g2 (Add g1 M)) w' M' ∧ Cx No w M w' M' ∧ OwnRow (RSlice RSpan) w.heap.size 59 w' M' s.2 v1c ∧ Own w' g1 25 #[(.slice none 0 0)] ∧ M' g1 ∧ Own w' g2 25 #[v1c] ∧ M' g2) ?_ ?_ ?_
 · exact fun a ha => ⟨(Add g2 (Add g1 M)), (.slice none 0 0), ha.sub ⟨Z, Z, Z, Zt⟩, Le.refl _ _, hC3, hr1, ho5, hm2, ho4, hm3⟩
 ·
  rintro ⟨k1, y1⟩ a w4 sr1 ⟨M1, v2, hF1, hl4, hC4, hw2, ho6, hm4, ho7, hm5⟩ hb4 hR1
  refine cw_at (E := [(0, (Zw g1 0)), (1, (Zw g2 0)), (2, (Zv k1))]) hF1 (cw_seq (cw_seq (Zr (Zo Z Z Z (Zm Z Z (Zo Z Z Z (ow_lss Z Z Z fun bb1 hbb1 => Zn (Ze ?_))))))))
  replace hb4 := Zc hb4
  rcases hb4 with ⟨hc1, hb4⟩ | ⟨hc1, hb4⟩
  ·
   obtain rfl := hbb1.trans hc1
   refine cw_true Z (cw_skip (Ze (cw_seq (cw_block ?_))))
   replace hb4 := bind_some hb4
   obtain ⟨x1, hx1, hb4⟩ := hb4
   have lz1 := (((hl1.trans hl2).trans hl3).trans hl4)
   refine cw_sub (E' := [(0, (Zw g1 0)), (1, (Zw g2 0)), (2, (Zv k1))]) ⟨Z, Z, Z, Zt⟩ (cw_drawQ 7 [PEq (Zw g2 0), PEq v2, PEq (Zv k1), PEq (Zv x1), PV RSpan M1 ({ Lo := 0, Hi := x1 } : Span), PV (RSlice RSpan) M1 [({ Lo := 0, Hi := x1 } : Span)], PV (RSlice (RSlice RSpan)) M1 [[({ Lo := 0, Hi := x1 } : Span)]]] (by kernel_rfl) Z (by kernel_rfl) ⟨Zq, Zq, Zq, Zq, PV.mono _ _ _, PV.mono _ _ _, PV.mono _ _ _, Zt⟩ ⟨?_, ?_, ?_, ?_, ?_, ?_, ?_, Zt⟩ ?_)
   · exact fun w8 D hS1 hd1 => Zs (E' := [(1, (Zw g2 0))]) ⟨Z, Zt⟩ (Zp Z (Zf Z Z Tryd.underlying25 Z (Tryd.sizeOf23 _) Zb))
   ·
    intro w9 D hS2 hd2
    have ho17 := ho7.no hS2
    exact Zs (E' := [(8, (Zw g2 0))]) ⟨dpE hd2 0 Z Z, Zt⟩ (Zp Z (ow_loadOwn1 Z Z Z ho17 (Tryd.isAgg23 _) Z Zb))
   · exact fun w10 D hS3 hd3 => Zs (E' := [(2, (Zv k1))]) ⟨Z, Zt⟩ (Zp Z (Zm Z Z Zb))
   ·
    intro w11 D hS4 hd4
    have hl11 := Le.no M1 hS4
    have hC11 := hC4.no hS4
    refine Zs (E' := [(10, (Zv k1))]) ⟨dpE hd4 2 Z Z, Zt⟩ (Zp Z (Zk Z Z Tryd.call39 (w_spec_FieldTop (hG.mono (lz1.trans hl11)) hC11.old hx1) fun v4 w12 hv4 => ?_))
    obtain ⟨hv4, hb8⟩ := hv4
    obtain rfl := Zi hv4
    exact ⟨hb8, Z⟩
   ·
    intro w13 D hS5 hd5
    refine Zs (E' := [(11, (Zv x1))]) ⟨dpE hd5 3 Z Z, Zt⟩ (Zp Z (ow_build (v := .agg #[(Zv 0), (Zv x1)]) Z Z (by kernel_rfl) ?_))
    have hw6 : VRep RSpan w13 M1 ({ Lo := 0, Hi := x1 } : Span) (.agg #[(Zv 0), (Zv x1)]) := shut_Span
    exact ⟨BX.refl _ _, hw6⟩
   ·
    intro w14 D hS6 hd6
    have hC14 := hC4.no hS6
    have d4 : PV RSpan M1 ({ Lo := 0, Hi := x1 } : Span) (D 4) w14 := dpA hd6 4 Z
    generalize hq1 : (D 4) = v5 at d4
    refine Zs (E' := [(12, v5)]) ⟨congrArg some hq1, Zt⟩ ?_
    obtain rfl := open_Span d4
    exact Zp Z (ow_buildSlice (R := RSpan) (xs := [({ Lo := 0, Hi := x1 } : Span)]) (cs := #[(Zv ({ Lo := 0, Hi := x1 } : Span).Lo), (Zv ({ Lo := 0, Hi := x1 } : Span).Hi)]) (e := 69) Z Z (by kernel_rfl) Z Z ⟨_, _, Z, d4.cells, Z⟩ hC14 fun p3 w15 hw7 hb9 hl15 hC15 => ⟨hb9, hw7⟩)
   ·
    intro w16 D hS7 hd7
    have hC16 := hC4.no hS7
    have d5 : PV (RSlice RSpan) M1 [({ Lo := 0, Hi := x1 } : Span)] (D 5) w16 := dpA hd7 5 Z
    generalize hq2 : (D 5) = v6 at d5
    refine Zs (E' := [(13, v6)]) ⟨congrArg some hq2, Zt⟩ ?_
    obtain ⟨A1, c1, rfl, -⟩ := vslice_shape d5
    exact Zp Z (ow_buildSlice (R := (RSlice RSpan)) (xs := [[({ Lo := 0, Hi := x1 } : Span)]]) (cs := #[(.slice A1 [({ Lo := 0, Hi := x1 } : Span)].length c1)]) (e := 59) Z Z (by kernel_rfl) Z Z ⟨_, _, Z, d5.cells, Z⟩ hC16 fun p4 w17 hw8 hb10 hl17 hC17 => ⟨hb10, hw8⟩)
   ·
    intro w18 D hS8 hd8
    have d12 : PV (RSlice (RSlice RSpan)) M1 [[({ Lo := 0, Hi := x1 } : Span)]] (D 6) w18 := dpA hd8 6 Z
    have hl18 := Le.no M1 hS8
    have hC18 := hC4.no hS8
    have ho34 := ho6.no hS8
    have ho35 := ho7.no hS8
    have hr15 := hw2.no hS8
    generalize hq3 : (D 6) = v7 at d12
    refine lw_sub (E' := [(9, v2), (14, v7), (0, (Zw g1 0)), (1, (Zw g2 0)), (2, (Zv k1))]) ⟨dpE hd8 1 Z Z, congrArg some hq3, Z, Z, Z, Zt⟩ ?_
    replace hb4 := bind_some hb4
    obtain ⟨z1, hz1, hb4⟩ := hb4
    refine Zo Z Z Z (ow_append (R := (RSlice RSpan)) Z Z Z Z Tryd.underlying23 hi59 hz59 hs59 hy59 Z Z Z Z hr15 d12 hz1 hC18 fun v8 w19 M2 hr16 hb11 hl19 hC19 hM1 hat1 => ?_)
    have ho36 := ho34.go hb11 (fun e => (orow_ne hr15 ho34 (by decide)) e)
    have hm6 := hM1 _ hm4
    have ho37 := ho35.go hb11 (fun e => (orow_ne hr15 ho35 (by decide)) e)
    have hm7 := hM1 _ hm5
    refine Zo Z Z Z (Zf Z Z Tryd.underlying25 Z (Tryd.sizeOf23 _) ?_)
    obtain ⟨A2, c2, rfl⟩ := hr16.len
    refine lw_op0 Z Z (ow_store (X := No) (us := [(.slice A2 z1.length c2)]) (cs' := #[(.slice A2 z1.length c2)]) Z Z Z Z ho37 (Tryd.sizeOf23 _) Z Z Z Z hm7 (.inl hg4) Z hC19 fun w20 ho38 hb12 hl20 hC20 => ?_)
    have ho39 := ho36.go hb12 (fun e => hn1 e)
    have hr17 := hr16.go hb12 (fun k hk e => (orow_ne hr16 ho37 (by decide)) (hk.trans (congrArg some e))) hl20 (fun _ h => h)
    refine Zn (ew_blockN (Ze (Zr (Zo Z Z Z (Zm Z Z (Zo Z Z Z (ow_add Z Z Z (Zo Z Z Z (Za Z Z (Zn ?_))))))))))
    have lz2 := (((hl4.trans hl18).trans hl19).trans hl20)
    exact ew_nxt ((W (k1 + 1)), z1) hb4 fun a ha => ⟨M2, (.slice A2 z1.length c2), (ha.sub ⟨Z, Z, Z, Zt⟩), lz2, hC20, hr17, ho39, hm6, ho38, hm7⟩
  ·
   obtain rfl := hbb1.trans hc1
   exact Zu Z (cw_exit (ew_thenX (ew_thenX (ew_blockX (ew_brk (k1, y1) hb4 fun a ha => ⟨M1, v2, (ha.sub ⟨Z, Z, Z, Zt⟩), hl4, hC4, hw2, ho6, hm4, ho7, hm5⟩)))))
 ·
  rintro ⟨k2, y2⟩ a w21 hlr2 ⟨M3, v10, hF2, hl21, hC21, hw9, ho40, hm8, ho41, hm9⟩
  subst hlr2
  refine ew_at (E := [(0, (Zw g1 0)), (1, (Zw g2 0)), (2, (Zv k2))]) hF2 (Ze (cw_seq (Zr ?_)))
  obtain ⟨A3, c3, rfl⟩ := hw9.len
  refine Zo Z Z Z (ow_loadOwnA Z Z Z ho41 (Tryd.isAgg25 _) (Tryd.sizeOf25 _) Z (lw_op0 Z Z (ow_store (X := No) (us := [(.slice A3 y2.length c3)]) (cs' := #[(.slice A3 y2.length c3)]) Z Z Z Z ho40 (Tryd.sizeOf25 _) Z Z Z Z hm8 (.inl hg2) Z hC21 fun w22 ho42 hb13 hl22 hC22 => ?_)))
  have hr18 := hw9.go hb13 (fun k hk e => (orow_ne hw9 ho40 (by decide)) (hk.trans (congrArg some e))) hl22 (fun _ h => h)
  refine Zn (Ze (Zy ?_))
  obtain rfl := sj h
  exact ew_ret (res1 Z (.cell Z (own_loadVarA ho42 (Tryd.isAgg25 _) (Tryd.sizeOf25 _) Z))) ⟨_, Z, ⟨M3, _, Z, hr18, hC22⟩, hC22.bx⟩

theorem w_spec_BoxAll {w : World} {M : Nat → Prop} (hG : ARep (RArr 4 RShape) w M shapes ⟨0, 0, none⟩) (hO : ∀ b, M b → b < w.heap.size)  {r : Box} (h : F.spec_BoxAll = some r) :
  Calls Tryd.prog 65 [].toArray w fun e w' => ∃ v, e = .returned v ∧ VRep RBox w' M r v ∧ BX No w w' := by
 refine Calls.mono (wo_spec_BoxAll hG hO h) fun e w1 hz => ?_
 obtain ⟨v, e1, ⟨M1, u, rfl, hr, hc⟩, hb⟩ := hz
 obtain ⟨A0, c0, rfl⟩ := hr.len
 exact ⟨_, e1, shut_Box (hr.freezeBack hc hO), hb⟩

theorem wo_spec_TestsBox {w : World} {M : Nat → Prop} (hG : ARep (RArr 4 RShape) w M shapes ⟨0, 0, none⟩) (hO : ∀ b, M b → b < w.heap.size) {v0p : Value} {a_list : List Test} (h0 : VRep (RSlice RTest) w M a_list v0p) {r : Box} (h : F.spec_TestsBox a_list = some r) :
  Calls Tryd.prog 81 [v0p].toArray w fun e w' => ∃ v, e = .returned v ∧ (∃ M' u, v = .agg #[u] ∧ OwnRow (RSlice RSpan) w.heap.size 59 w' M' r.Sides u ∧ Cx No w M w' M') ∧ BX No w w' := by
 have hC : Cx No w M w M := Cx.start hO (fun _ e => e.elim)
 refine walk (N := 38) Tryd.func81 Z Tryd.ntmps81 Z (cw_seq (Zr (Zo Z Z Z (ow_alloc Z (Tryd.zeroValue25 _) hC fun g1 w1 hg1 hg2 ho1 hb1 hl1 hC1 => ?_))))
 have hm1 : (Add g1 M) g1 := .inl Z
 refine Zn (Ze (cw_seq (cw_seq (Zr (Zo Z Z Z (Zm Z Z ?_))))))
 replace h := bind_some h
 obtain ⟨x1, hx1, h⟩ := h
 refine Zo Z Z Z (Zk Z Z Tryd.call101 (w_spec_TestsValid (hG.mono hl1) hC1.old (VRep.mono hl1 h0) hx1) fun v1 w2 hv1 => ?_)
 obtain ⟨hv1, hb2⟩ := hv1
 have hl2 := Le.no (Add g1 M) hb2
 have hC2 := hC1.no hb2
 have ho2 := ho1.no hb2
 obtain rfl := vbool_eq hv1
 refine Zo Z Z Z (ow_not Z Z (Zn (Ze ?_)))
 replace h := Zc h
 rcases h with ⟨hc1, h⟩ | ⟨hc1, h⟩
 ·
  subst hc1
  refine Zu Z (cw_skip (Ze (cw_seq (Zr ?_))))
  replace h := bind_some h
  obtain ⟨x2, hx2, h⟩ := h
  refine Zo Z Z Z (Zk Z Z Tryd.call65 (wo_spec_BoxAll (hG.mono (hl1.trans hl2)) hC2.old hx2) fun v2 w3 hv2 => ?_)
  obtain ⟨⟨M1, v3, rfl, hr1, hk1⟩, hb3⟩ := hv2
  replace hr1 := hr1.base hC2.bx.size
  have hl3 := hk1.le
  have hC3 := hC2.trans hk1
  have ho3 := ho2.no hb3
  have hm2 := hk1.sup _ hm1
  obtain ⟨A1, c1, rfl⟩ := hr1.len
  refine Zo Z Z Z (ow_alloc Z (Tryd.zeroValue25 _) hC3 fun g2 w4 hg3 hg4 ho4 hb4 hl4 hC4 => ?_)
  have hn1 := Nat.ne_of_lt (Nat.lt_of_lt_of_le ho3.lt hg3)
  have ho5 := ho3.no hb4
  have hm3 : (Add g2 M1) g1 := .inr hm2
  have hr2 := hr1.add hb4 hg3
  have hm4 : (Add g2 M1) g2 := .inl Z
  refine lw_op0 Z Z (ow_store (X := No) (us := [(.slice A1 x2.Sides.length c1)]) (cs' := #[(.slice A1 x2.Sides.length c1)]) Z Z Z Z ho4 (Tryd.sizeOf25 _) Z Z Z Z hm4 (.inl hg4) Z hC4 fun w5 ho6 hb5 hl5 hC5 => ?_)
  have ho7 := ho5.go hb5 (fun e => hn1 e)
  have hr3 := hr2.go hb5 (fun k hk e => (orow_ne hr2 ho4 (by decide)) (hk.trans (congrArg some e))) hl5 (fun _ h => h)
  refine Zn (Ze (cw_seq (cw_seq (Zr (Zo Z Z Z (Za Z Z (Zn (Ze ?_))))))))
  replace h := bind_some h
  obtain ⟨lr1, hlr1, h⟩ := h
  refine cw_for hlr1 (fun s a w' => ∃ (M' : Nat → Prop), Fits 38 [(0, v0p), (2, (Zw g1 0)), (3, (Zw g2 0)), (4, (Zv s.1))] a ∧ Le w5 (Add g2 M1) w' M' ∧ Cx No w M w' M' ∧ OwnRow (RSlice RSpan) w.heap.size 59 w' M' s.2 (.slice A1 x2.Sides.length c1) ∧ Own w' g1 25 #[(.slice none 0 0)] ∧ M' g1 ∧ Own w' g2 25 #[(.slice A1 x2.Sides.length c1)] ∧ M' g2) ?_ ?_ ?_
  · exact fun a ha => ⟨(Add g2 M1), ha.sub ⟨Z, Z, Z, Z, Zt⟩, Le.refl _ _, hC5, hr3, ho7, hm3, ho6, hm4⟩
  ·
   rintro ⟨k1, y1⟩ a w6 sr1 ⟨M2, hF1, hl6, hC6, hw1, ho8, hm5, ho9, hm6⟩ hb6 hR1
   refine cw_at (E := [(0, v0p), (2, (Zw g1 0)), (3, (Zw g2 0)), (4, (Zv k1))]) hF1 (cw_seq (cw_seq (Zr (Zo Z Z Z (Zm Z Z (Zo Z Z Z (Zm Z Z ?_)))))))
   have lz1 := (((((hl1.trans hl2).trans hl3).trans hl4).trans hl5).trans hl6)
   refine Zo Z Z Z (ow_len Z Z (VRep.mono lz1 h0) Tryd.underlying113 Z (Zo Z Z Z (ow_lss Z Z Z fun bb1 hbb1 => Zn (Ze ?_))))
   replace hb6 := Zc hb6
   rcases hb6 with ⟨hc2, hb6⟩ | ⟨hc2, hb6⟩
   ·
    obtain rfl := hbb1.trans hc2
    refine cw_true Z (cw_skip (Ze (cw_seq (cw_block (cw_seq (Zr (Zo Z Z Z (Zm Z Z (Zo Z Z Z (Zm Z Z ?_))))))))))
    replace hb6 := bind_some hb6
    obtain ⟨x3, hx3, hb6⟩ := hb6
    refine Zo Z Z Z (Zx (R := RTest) Z Z Z (VRep.mono lz1 h0) Tryd.underlying113 (Tryd.sizeOf133 _) hx3 fun p1 hp1 => Zo Z Z Z (Zf Z Z Tryd.underlying133 Z (Tryd.sizeOf3 _) (Zo Z Z Z (Zl (R := RInt) Z Z (hp1.fld fld_Test_Field) (Tryd.sizeOf3 _) (Tryd.isAgg3 _) fun v6 hv6 => ?_))))
    obtain rfl := Zi hv6
    refine Zo Z Z Z (Za Z Z (Zn (Ze ?_)))
    replace hb6 := bind_some hb6
    obtain ⟨x4, hx4, hb6⟩ := hb6
    replace hb6 := bind_some hb6
    obtain ⟨x5, hx5, hb6⟩ := hb6
    replace hb6 := bind_some hb6
    obtain ⟨x6, hx6, hb6⟩ := hb6
    refine cw_sub (E' := [(0, v0p), (2, (Zw g1 0)), (3, (Zw g2 0)), (4, (Zv k1)), (5, (Zv x3.Field))]) ⟨Z, Z, Z, Z, Z, Zt⟩ (cw_drawQ 14 [PEq (Zw g2 0), PEq (.slice A1 x2.Sides.length c1), PEq (Zv x3.Field), PEq (Zw g2 0), PEq (.slice A1 x2.Sides.length c1), PEq (Zv x3.Field), PEq (.pointer (some ⟨blk (.slice A1 x2.Sides.length c1), (x3.Field : Int).toNat * (RSlice RSpan).size + 0, none⟩)), PV (RSlice RSpan) M2 x4, PV (RSlice RTest) M2 a_list, PEq (Zv k1), PA RTest M2 x3, PV RTest M2 x3, PV (RSlice RSpan) M2 x5, PV (RSlice RSpan) M2 x6] (by kernel_rfl) Z (by kernel_rfl) ⟨Zq, Zq, Zq, Zq, Zq, Zq, Zq, PV.mono _ _ _, PV.mono _ _ _, Zq, PA.mono _ _ _, PV.mono _ _ _, PV.mono _ _ _, PV.mono _ _ _, Zt⟩ ⟨?_, ?_, ?_, ?_, ?_, ?_, ?_, ?_, ?_, ?_, ?_, ?_, ?_, ?_, Zt⟩ ?_)
    · exact fun w9 D hS1 hd1 => Zs (E' := [(3, (Zw g2 0))]) ⟨Z, Zt⟩ (Zp Z (Zf Z Z Tryd.underlying25 Z (Tryd.sizeOf23 _) Zb))
    ·
     intro w10 D hS2 hd2
     have ho17 := ho9.no hS2
     exact Zs (E' := [(22, (Zw g2 0))]) ⟨dpE hd2 0 Z Z, Zt⟩ (Zp Z (ow_loadOwn1 Z Z Z ho17 (Tryd.isAgg23 _) Z Zb))
    · exact fun w11 D hS3 hd3 => Zs (E' := [(5, (Zv x3.Field))]) ⟨Z, Zt⟩ (Zp Z (Zm Z Z Zb))
    · exact fun w12 D hS4 hd4 => Zs (E' := [(3, (Zw g2 0))]) ⟨Z, Zt⟩ (Zp Z (Zf Z Z Tryd.underlying25 Z (Tryd.sizeOf23 _) Zb))
    ·
     intro w13 D hS5 hd5
     have ho23 := ho9.no hS5
     exact Zs (E' := [(25, (Zw g2 0))]) ⟨dpE hd5 3 Z Z, Zt⟩ (Zp Z (ow_loadOwn1 Z Z Z ho23 (Tryd.isAgg23 _) Z Zb))
    · exact fun w14 D hS6 hd6 => Zs (E' := [(5, (Zv x3.Field))]) ⟨Z, Zt⟩ (Zp Z (Zm Z Z Zb))
    ·
     intro w15 D hS7 hd7
     have hr12 := hw1.no hS7
     exact Zs (E' := [(26, (.slice A1 x2.Sides.length c1)), (27, (Zv x3.Field))]) ⟨dpE hd7 4 Z Z, dpE hd7 5 Z Z, Zt⟩ (Zp Z (ow_indexRow (R := (RSlice RSpan)) Z Z Z hr12 Tryd.underlying23 (Tryd.sizeOf59 _) hx4 Zb))
    ·
     intro w16 D hS8 hd8
     have hr13 := hw1.no hS8
     exact Zs (E' := [(28, (.pointer (some ⟨blk (.slice A1 x2.Sides.length c1), (x3.Field : Int).toNat * (RSlice RSpan).size + 0, none⟩)))]) ⟨dpE hd8 6 Z Z, Zt⟩ (Zp Z (ow_loadElRow (R := (RSlice RSpan)) (S := (RSlice RSpan)) Z Z Z hr13 (orow_blk hr13 hx4) hx4 (Fld.whole (RSlice RSpan)) (Tryd.sizeOf59 _) (Tryd.isAgg59 _) fun v11 hv11 => ⟨BX.refl _ _, hv11⟩))
    ·
     intro w17 D hS9 hd9
     have hl17 := Le.no M2 hS9
     exact Zs (E' := [(0, v0p)]) ⟨Z, Zt⟩ (Zp Z (Zm Z Z ⟨BX.refl _ _, (VRep.mono (lz1.trans hl17) h0)⟩))
    · exact fun w18 D hS10 hd10 => Zs (E' := [(4, (Zv k1))]) ⟨Z, Zt⟩ (Zp Z (Zm Z Z Zb))
    ·
     intro w19 D hS11 hd11
     have d6 : PV (RSlice RTest) M2 a_list (D 8) w19 := dpA hd11 8 Z
     generalize hq1 : (D 8) = v12 at d6
     exact Zs (E' := [(30, v12), (31, (Zv k1))]) ⟨congrArg some hq1, dpE hd11 9 Z Z, Zt⟩ (Zp Z (Zx (R := RTest) Z Z Z d6 Tryd.underlying113 (Tryd.sizeOf133 _) hx3 fun p3 hp3 => ⟨BX.refl _ _, ⟨_, Z, hp3⟩⟩))
    ·
     intro w20 D hS12 hd12
     have d8 : PA RTest M2 x3 (D 10) w20 := dpA hd12 10 Z
     obtain ⟨p4, e1, ha1⟩ := d8
     exact Zs (E' := [(32, (.pointer (some p4)))]) ⟨congrArg some e1, Zt⟩ (Zp Z (Zl (R := RTest) Z Z ha1 (Tryd.sizeOf133 _) (Tryd.isAgg133 _) fun v13 hv13 => ⟨BX.refl _ _, hv13⟩))
    ·
     intro w21 D hS13 hd13
     have hl21 := Le.no M2 hS13
     have hC21 := hC6.no hS13
     have d9 : PV RTest M2 x3 (D 11) w21 := dpA hd13 11 Z
     generalize hq2 : (D 11) = v14 at d9
     refine Zs (E' := [(33, v14)]) ⟨congrArg some hq2, Zt⟩ (Zp Z (Zk Z Z Tryd.call102 (w_spec_TestSpans (hG.mono (lz1.trans hl21)) hC21.old d9 hx5) fun v15 w22 hv15 => ?_))
     obtain ⟨hv15, hb9⟩ := hv15
     exact ⟨hb9, hv15⟩
    ·
     intro w23 D hS14 hd14
     have hl23 := Le.no M2 hS14
     have hC23 := hC6.no hS14
     have d10 : PV (RSlice RSpan) M2 x4 (D 7) w23 := dpA hd14 7 Z
     have d11 : PV (RSlice RSpan) M2 x5 (D 12) w23 := dpA hd14 12 Z
     generalize hq3 : (D 7) = v16 at d10
     generalize hq4 : (D 12) = v17 at d11
     refine Zs (E' := [(29, v16), (34, v17)]) ⟨congrArg some hq3, congrArg some hq4, Zt⟩ (Zp Z (Zk Z Z Tryd.call74 (w_spec_l2Meet (hG.mono (lz1.trans hl23)) hC23.old d10 d11 hx6) fun v18 w24 hv18 => ?_))
     obtain ⟨hv18, hb10⟩ := hv18
     exact ⟨hb10, hv18⟩
    ·
     intro w25 D hS15 hd15
     have d26 : PV (RSlice RSpan) M2 x6 (D 13) w25 := dpA hd15 13 Z
     have hl25 := Le.no M2 hS15
     have hC25 := hC6.no hS15
     have ho46 := ho8.no hS15
     have ho47 := ho9.no hS15
     have hr22 := hw1.no hS15
     generalize hq5 : (D 13) = v19 at d26
     refine lw_sub (E' := [(23, (.slice A1 x2.Sides.length c1)), (24, (Zv x3.Field)), (35, v19), (0, v0p), (2, (Zw g1 0)), (3, (Zw g2 0)), (4, (Zv k1)), (5, (Zv x3.Field))]) ⟨dpE hd15 1 Z Z, dpE hd15 2 Z Z, congrArg some hq5, Z, Z, Z, Z, Z, Zt⟩ (Zo Z Z Z (ow_indexRow (R := (RSlice RSpan)) Z Z Z hr22 Tryd.underlying23 (Tryd.sizeOf59 _) hx4 (lw_op0 Z Z (ow_storeElRow (X := No) (R := (RSlice RSpan)) (S := (RSlice RSpan)) Z Z Z Z hr22 (orow_blk hr22 hx4) hx4 (FldSet.whole (RSlice RSpan)) (Tryd.sizeOf59 _) d26 (Nat.le_refl _) hC25 fun w26 ho48 hb11 hl26 hC26 => ?_))))
     have ho49 := ho46.go hb11 (fun e => (orow_ne hr22 ho46 (by decide)) (by rw [orow_blk hr22 hx4]; exact congrArg some e.symm))
     have ho50 := ho47.go hb11 (fun e => (orow_ne hr22 ho47 (by decide)) (by rw [orow_blk hr22 hx4]; exact congrArg some e.symm))
     refine Zn (ew_blockN (Ze (Zr (Zo Z Z Z (Zm Z Z (Zo Z Z Z (ow_add Z Z Z (Zo Z Z Z (Za Z Z (Zn ?_))))))))))
     have lz2 := ((hl6.trans hl25).trans hl26)
     exact ew_nxt ((W (k1 + 1)), (List.set y1 (x3.Field : Int).toNat x6)) hb6 fun a ha => ⟨M2, (ha.sub ⟨Z, Z, Z, Z, Zt⟩), lz2, hC26, ho48, ho49, hm5, ho50, hm6⟩
   ·
    obtain rfl := hbb1.trans hc2
    exact Zu Z (cw_exit (ew_thenX (ew_thenX (ew_blockX (ew_brk (k1, y1) hb6 fun a ha => ⟨M2, (ha.sub ⟨Z, Z, Z, Z, Zt⟩), hl6, hC6, hw1, ho8, hm5, ho9, hm6⟩)))))
  ·
   rintro ⟨k2, y2⟩ a w27 hlr2 ⟨M3, hF2, hl27, hC27, hw2, ho51, hm7, ho52, hm8⟩
   subst hlr2
   refine ew_at (E := [(0, v0p), (2, (Zw g1 0)), (3, (Zw g2 0)), (4, (Zv k2))]) hF2 (Ze (cw_seq (Zr (Zo Z Z Z (ow_loadOwnA Z Z Z ho52 (Tryd.isAgg25 _) (Tryd.sizeOf25 _) Z (lw_op0 Z Z (ow_store (X := No) (us := [(.slice A1 x2.Sides.length c1)]) (cs' := #[(.slice A1 x2.Sides.length c1)]) Z Z Z Z ho51 (Tryd.sizeOf25 _) Z Z Z Z hm7 (.inl hg2) Z hC27 fun w28 ho53 hb12 hl28 hC28 => ?_)))))))
   have hr23 := hw2.go hb12 (fun k hk e => (orow_ne hw2 ho51 (by decide)) (hk.trans (congrArg some e))) hl28 (fun _ h => h)
   refine Zn (Ze (Zy ?_))
   obtain rfl := sj h
   exact ew_ret (res1 Z (.cell Z (own_loadVarA ho53 (Tryd.isAgg25 _) (Tryd.sizeOf25 _) Z))) ⟨_, Z, ⟨M3, _, Z, hr23, hC28⟩, hC28.bx⟩
 ·
  subst hc1
  refine cw_true Z (cw_seq (Zr (Zo Z Z Z (ow_build (v := .agg #[(.slice none 0 0)]) Z Z (by kernel_rfl) (lw_op0 Z Z (ow_store (X := No) (us := [(.slice none 0 0)]) (cs' := #[(.slice none 0 0)]) Z Z Z Z ho2 (Tryd.sizeOf25 _) Z Z Z Z hm1 (.inl hg2) Z hC2 fun w29 ho55 hb13 hl29 hC29 => Zn (Ze (Zy (Zh ?_)))))))))
  obtain rfl := sj h
  exact ew_ret (res1 Z (.cell Z (own_loadVarA ho55 (Tryd.isAgg25 _) (Tryd.sizeOf25 _) Z))) ⟨_, Z, ⟨(Add g1 M), _, Z, ownrow_nil, hC29⟩, hC29.bx⟩

theorem w_spec_TestsBox {w : World} {M : Nat → Prop} (hG : ARep (RArr 4 RShape) w M shapes ⟨0, 0, none⟩) (hO : ∀ b, M b → b < w.heap.size) {v0p : Value} {a_list : List Test} (h0 : VRep (RSlice RTest) w M a_list v0p) {r : Box} (h : F.spec_TestsBox a_list = some r) :
  Calls Tryd.prog 81 [v0p].toArray w fun e w' => ∃ v, e = .returned v ∧ VRep RBox w' M r v ∧ BX No w w' := by
 refine Calls.mono (wo_spec_TestsBox hG hO h0 h) fun e w1 hz => ?_
 obtain ⟨v, e1, ⟨M1, u, rfl, hr, hc⟩, hb⟩ := hz
 obtain ⟨A0, c0, rfl⟩ := hr.len
 exact ⟨_, e1, shut_Box (hr.freezeBack hc hO), hb⟩

theorem w_spec_l20Test {w : World} {M : Nat → Prop} (hG : ARep (RArr 4 RShape) w M shapes ⟨0, 0, none⟩) (hO : ∀ b, M b → b < w.heap.size) {g : Nat} {Ax : Option Addr} {cx : Nat} {a_xs : List Int} {a_pos : Int} (hxs : VRep (RSlice RU8) w M a_xs (.slice Ax a_xs.length cx)) (hown : Own w g 97 #[.slice Ax a_xs.length cx, .int .i64 a_pos]) (hgM : M g) {a_n : Int} {r : Test × Int} (h : F.spec_l20Test a_xs a_pos a_n = some r) :
  Calls Tryd.prog 103 [(.pointer (some ⟨g, 0, none⟩)), (.int .i64 a_n)].toArray w fun e w' => ∃ v, e = .returned v ∧ (VRep RTest w' M r.1 v ∧ Own w' g 97 #[.slice Ax a_xs.length cx, .int .i64 r.2]) ∧ BX (One g) w w' := by
 have hX : ∀ b, (One g) b → M b := fun b e => e ▸ hgM
 have hC : Cx (One g) w M w M := Cx.start hO hX
 refine walk (N := 83) Tryd.func103 Z Tryd.ntmps103 Z (cw_seq (Zr (Zo Z Z Z (ow_alloc Z (Tryd.zeroValue133 _) hC fun g1 w1 hg1 hg2 ho1 hb1 hl1 hC1 => ?_))))
 have hn1 := Nat.ne_of_lt (Nat.lt_of_lt_of_le hown.lt hg1)
 have ho2 := hown.no hb1
 have hm1 : (Add g1 M) g := .inr hgM
 have hm2 : (Add g1 M) g1 := .inl Z
 refine Zn (Ze (cw_seq (Zr (Zo Z Z Z (Zm Z Z ?_)))))
 replace h := bind_some h
 obtain ⟨x1, hx1, h⟩ := h
 refine Zo Z Z Z (Zk Z Z Tryd.call63 (w_spec_l20Rd_pick (hG.mono hl1) hC1.old (VRep.mono hl1 hxs) ho2 hm1 hx1) fun v1 w2 hv1 => ?_)
 obtain ⟨⟨hv1, ho3⟩, hb2⟩ := hv1
 have hl2 := Le.of_bx (Add g1 M) hb2 (fun b e => (by rw [show b = g from e]; exact hm1))
 have hC2 := hC1.go hb2 (fun b e => Or.inr e)
 have ho4 := ho1.go hb2 (fun e => hn1 e.symm)
 obtain rfl := Zi hv1
 refine Zo Z Z Z (Zm Z Z ?_)
 replace h := bind_some h
 obtain ⟨x2, hx2, h⟩ := h
 refine Zo Z Z Z (Zk Z Z Tryd.call63 (w_spec_l20Rd_pick (hG.mono (hl1.trans hl2)) hC2.old (VRep.mono (hl1.trans hl2) hxs) ho3 hm1 hx2) fun v2 w3 hv2 => ?_)
 obtain ⟨⟨hv2, ho5⟩, hb3⟩ := hv2
 have hl3 := Le.of_bx (Add g1 M) hb3 (fun b e => (by rw [show b = g from e]; exact hm1))
 have hC3 := hC2.go hb3 (fun b e => Or.inr e)
 have ho6 := ho4.go hb3 (fun e => hn1 e.symm)
 obtain rfl := Zi hv2
 refine Zo Z Z Z (ow_eqlI Z Z Z fun bb1 hbb1 => Zo Z Z Z (ow_build (v := .agg #[(Zv x1.1), (Zv 0), (Zv 0), (.bool bb1)]) Z Z (by kernel_rfl) (Zo Z Z Z (ow_alloc Z (Tryd.zeroValue133 _) hC3 fun g2 w4 hg3 hg4 ho7 hb4 hl4 hC4 => ?_))))
 have hn2 := Nat.ne_of_lt (Nat.lt_of_lt_of_le ho5.lt hg3)
 have ho8 := ho5.no hb4
 have hm3 : (Add g2 (Add g1 M)) g := .inr hm1
 have hn3 := Nat.ne_of_lt (Nat.lt_of_lt_of_le ho6.lt hg3)
 have ho9 := ho6.no hb4
 have hm4 : (Add g2 (Add g1 M)) g1 := .inr hm2
 have hm5 : (Add g2 (Add g1 M)) g2 := .inl Z
 refine lw_op0 Z Z (ow_store (X := (One g)) (us := [(Zv x1.1), (Zv 0), (Zv 0), (.bool bb1)]) (cs' := #[(Zv x1.1), (Zv 0), (Zv 0), (.bool bb1)]) Z Z Z Z ho7 (Tryd.sizeOf133 _) Z Z Z Z hm5 (.inl hg4) Z hC4 fun w5 ho10 hb5 hl5 hC5 => ?_)
 have ho11 := ho8.go hb5 (fun e => hn2 e)
 have ho12 := ho9.go hb5 (fun e => hn3 e)
 refine Zn (Ze (cw_seq (Zr (Zo Z Z Z (Zf Z Z Tryd.underlying133 Z (Tryd.sizeOf3 _) (Zo Z Z Z (ow_loadOwn1 Z Z Z ho10 (Tryd.isAgg3 _) Z ?_)))))))
 replace h := bind_some h
 obtain ⟨x3, hx3, h⟩ := h
 have lz1 := ((((hl1.trans hl2).trans hl3).trans hl4).trans hl5)
 refine Zo Z Z Z (Zk Z Z Tryd.call39 (w_spec_FieldTop (hG.mono lz1) hC5.old hx3) fun v3 w6 hv3 => ?_)
 obtain ⟨hv3, hb6⟩ := hv3
 have hl6 := Le.no (Add g2 (Add g1 M)) hb6
 have hC6 := hC5.no hb6
 have ho13 := ho11.no hb6
 have ho14 := ho12.no hb6
 have ho15 := ho10.no hb6
 obtain rfl := Zi hv3
 refine Zo Z Z Z (Za Z Z (Zn (Ze (cw_seq (Zr (Zo Z Z Z (Zm Z Z (Zo Z Z Z (Zm Z Z ?_)))))))))
 replace h := bind_some h
 obtain ⟨x4, hx4, h⟩ := h
 refine Zo Z Z Z (Zk Z Z Tryd.call93 (w_spec_l20Span (hG.mono (lz1.trans hl6)) hC6.old (VRep.mono (lz1.trans hl6) hxs) ho13 hm3 hx4) fun v4 w7 hv4 => ?_)
 obtain ⟨⟨hv4, ho16⟩, hb7⟩ := hv4
 have hl7 := Le.of_bx (Add g2 (Add g1 M)) hb7 (fun b e => (by rw [show b = g from e]; exact hm3))
 have hC7 := hC6.go hb7 (fun b e => Or.inr e)
 have ho17 := ho14.go hb7 (fun e => hn1 e.symm)
 have ho18 := ho15.go hb7 (fun e => hn2 e.symm)
 refine Zo Z Z Z (ow_alloc Z (Tryd.zeroValue69 _) hC7 fun g3 w8 hg5 hg6 ho19 hb8 hl8 hC8 => ?_)
 have hn4 := Nat.ne_of_lt (Nat.lt_of_lt_of_le ho16.lt hg5)
 have ho20 := ho16.no hb8
 have hm6 : (Add g3 (Add g2 (Add g1 M))) g := .inr hm3
 have hn5 := Nat.ne_of_lt (Nat.lt_of_lt_of_le ho17.lt hg5)
 have ho21 := ho17.no hb8
 have hm7 : (Add g3 (Add g2 (Add g1 M))) g1 := .inr hm4
 have hn6 := Nat.ne_of_lt (Nat.lt_of_lt_of_le ho18.lt hg5)
 have ho22 := ho18.no hb8
 have hm8 : (Add g3 (Add g2 (Add g1 M))) g2 := .inr hm5
 have hm9 : (Add g3 (Add g2 (Add g1 M))) g3 := .inl Z
 obtain rfl := open_Span hv4
 refine lw_op0 Z Z (ow_store (X := (One g)) (us := [(Zv x4.1.Lo), (Zv x4.1.Hi)]) (cs' := #[(Zv x4.1.Lo), (Zv x4.1.Hi)]) Z Z Z Z ho19 (Tryd.sizeOf69 _) Z Z Z Z hm9 (.inl hg6) Z hC8 fun w9 ho23 hb9 hl9 hC9 => ?_)
 have ho24 := ho20.go hb9 (fun e => hn4 e)
 have ho25 := ho21.go hb9 (fun e => hn5 e)
 have ho26 := ho22.go hb9 (fun e => hn6 e)
 refine Zn (Ze (cw_seq (cw_seq (Zr (Zo Z Z Z (Zf Z Z Tryd.underlying133 Z (Tryd.sizeOf3 _) (Zo Z Z Z (ow_loadOwn1 Z Z Z ho26 (Tryd.isAgg3 _) Z (Zo Z Z Z (ow_lss Z Z Z fun bb2 hbb2 => Zo Z Z Z (Zm Z Z ?_)))))))))))
 replace h := Zc h
 rcases h with ⟨hc1, h⟩ | ⟨hc1, h⟩
 ·
  obtain rfl := hbb2.trans hc1
  refine lw_on Z Z Z Z Z Z (Zm Z Z ?_)
  have lz2 := ((((lz1.trans hl6).trans hl7).trans hl8).trans hl9)
  replace h := bind_some h
  obtain ⟨x5, hx5, h⟩ := h
  refine lw_on Z Z Z Z Z Z (Zk Z Z Tryd.call63 (w_spec_l20Rd_pick (hG.mono lz2) hC9.old (VRep.mono lz2 hxs) ho24 hm6 hx5) fun v5 w10 hv5 => ?_)
  obtain ⟨⟨hv5, ho27⟩, hb10⟩ := hv5
  have hl10 := Le.of_bx (Add g3 (Add g2 (Add g1 M))) hb10 (fun b e => (by rw [show b = g from e]; exact hm6))
  have hC10 := hC9.go hb10 (fun b e => Or.inr e)
  have ho28 := ho25.go hb10 (fun e => hn1 e.symm)
  have ho29 := ho26.go hb10 (fun e => hn2 e.symm)
  have ho30 := ho23.go hb10 (fun e => hn4 e.symm)
  obtain rfl := Zi hv5
  refine lw_on Z Z Z Z Z Z (ow_eqlI Z Z Z fun bb3 hbb3 => Zo Z Z Z (ow_pickT Z Z Z (Zn (Ze ?_))))
  replace h := Zc h
  rcases h with ⟨hc2, h⟩ | ⟨hc2, h⟩
  ·
   obtain rfl := hbb3.trans hc2
   refine cw_true Z (cw_seq (Zr (Zo Z Z Z (Zm Z Z ?_))))
   replace h := bind_some h
   obtain ⟨x6, hx6, h⟩ := h
   refine Zo Z Z Z (Zk Z Z Tryd.call63 (w_spec_l20Rd_pick (hG.mono (lz2.trans hl10)) hC10.old (VRep.mono (lz2.trans hl10) hxs) ho27 hm6 hx6) fun v6 w11 hv6 => ?_)
   obtain ⟨⟨hv6, ho31⟩, hb11⟩ := hv6
   have hl11 := Le.of_bx (Add g3 (Add g2 (Add g1 M))) hb11 (fun b e => (by rw [show b = g from e]; exact hm6))
   have hC11 := hC10.go hb11 (fun b e => Or.inr e)
   have ho32 := ho28.go hb11 (fun e => hn1 e.symm)
   have ho33 := ho29.go hb11 (fun e => hn2 e.symm)
   have ho34 := ho30.go hb11 (fun e => hn4 e.symm)
   obtain rfl := Zi hv6
   refine Zo Z Z Z (ow_build (v := .agg #[(Zv x6.1), (Zv 0)]) Z Z (by kernel_rfl) (lw_op0 Z Z (ow_store (X := (One g)) (us := [(Zv x6.1), (Zv 0)]) (cs' := #[(Zv x6.1), (Zv 0)]) Z Z Z Z ho34 (Tryd.sizeOf69 _) Z Z Z Z hm9 (.inl hg6) Z hC11 fun w12 ho35 hb12 hl12 hC12 => ?_)))
   have ho36 := ho31.go hb12 (fun e => hn4 e)
   have ho37 := ho32.go hb12 (fun e => hn5 e)
   have ho38 := ho33.go hb12 (fun e => hn6 e)
   refine Zn (Ze ?_)
   replace h := bind_some h
   obtain ⟨x7, hx7, h⟩ := h
   have lz3 := (((lz2.trans hl10).trans hl11).trans hl12)
   refine cw_sub (E' := [(0, (Zw g 0)), (1, (Zv a_n)), (4, (Zw g1 0)), (5, (Zw g2 0)), (6, (Zv x3)), (7, (Zw g3 0))]) ⟨Z, Z, Z, Z, Z, Z, Zt⟩ (cw_drawC (g := g) (T := 97) 4 1 [none, none, none, some 0] [#[(.slice Ax a_xs.length cx), (Zv x6.2)], #[(.slice Ax a_xs.length cx), (Zv x7.2)]] [PEq (Zw g3 0), PEq (Zv x6.1), PEq (Zw g 0), PEq (Zv x7.1)] (by kernel_rfl) Z (by kernel_rfl) (by kernel_rfl) ho36 ⟨(PEq.monoY hm6 _), (PEq.monoY hm6 _), (PEq.monoY hm6 _), (PEq.monoY hm6 _), Zt⟩ ⟨?_, ?_, ?_, ?_, Zt⟩ ?_)
   · exact fun w14 D hS1 hd1 => Zs (E' := [(7, (Zw g3 0))]) ⟨Z, Zt⟩ (Zp Z (Zf Z Z Tryd.underlying69 Z (Tryd.sizeOf3 _) Zb))
   ·
    intro w15 D hS2 hd2
    have ho48 := ho35.go hS2 (fun e => hn4 e.symm)
    exact Zs (E' := [(31, (Zw g3 0))]) ⟨dpE hd2 0 Z Z, Zt⟩ (Zp Z (ow_loadOwn1 Z Z Z ho48 (Tryd.isAgg3 _) Z Zb))
   · exact fun w16 D hS3 hd3 => Zs (E' := [(0, (Zw g 0))]) ⟨Z, Zt⟩ (Zp Z (Zm Z Z Zb))
   ·
    intro w17 D hS4 hd4
    obtain ⟨hS4, ho52⟩ := hS4
    have ho52 : Own w17 g 97 #[(.slice Ax a_xs.length cx), (Zv x6.2)] := ho52
    have hl17 := leY hm6 hS4
    have hC17 := hC12.go hS4 (fun b e => Or.inr e)
    refine Zs (E' := [(33, (Zw g 0))]) ⟨dpE hd4 2 Z Z, Zt⟩ (Zp Z (Zk Z Z Tryd.call63 (w_spec_l20Rd_pick (hG.mono (lz3.trans hl17)) hC17.old (VRep.mono (lz3.trans hl17) hxs) ho52 hm6 hx7) fun v8 w18 hv8 => ?_))
    obtain ⟨⟨hv8, ho56⟩, hb14⟩ := hv8
    obtain rfl := Zi hv8
    exact ⟨⟨⟨hS4.trans hb14, ho56⟩, hb14⟩, Z⟩
   ·
    intro w19 D hS5 hd5
    obtain ⟨hS5, ho60⟩ := hS5
    have ho60 : Own w19 g 97 #[(.slice Ax a_xs.length cx), (Zv x7.2)] := ho60
    have hl19 := leY hm6 hS5
    have hC19 := hC12.go hS5 (fun b e => Or.inr e)
    have ho61 := ho37.go hS5 (fun e => hn1 e.symm)
    have ho62 := ho38.go hS5 (fun e => hn2 e.symm)
    have ho63 := ho35.go hS5 (fun e => hn4 e.symm)
    refine lw_sub (E' := [(32, (Zv x6.1)), (34, (Zv x7.1)), (0, (Zw g 0)), (1, (Zv a_n)), (4, (Zw g1 0)), (5, (Zw g2 0)), (6, (Zv x3)), (7, (Zw g3 0))]) ⟨dpE hd5 1 Z Z, dpE hd5 3 Z Z, Z, Z, Z, Z, Z, Z, Zt⟩ (Zo Z Z Z (ow_add Z Z Z (Zo Z Z Z (Zf Z Z Tryd.underlying69 Z (Tryd.sizeOf3 _) (lw_op0 Z Z (ow_store (X := (One g)) (us := [(Zv (W (x6.1 + x7.1)))]) (cs' := #[(Zv x6.1), (Zv (W (x6.1 + x7.1)))]) Z Z Z Z ho63 (Tryd.sizeOf3 _) Z Z Z Z hm9 (.inl hg6) Z hC19 fun w20 ho64 hb15 hl20 hC20 => ?_))))))
    have ho65 := ho60.go hb15 (fun e => hn4 e)
    have ho66 := ho61.go hb15 (fun e => hn5 e)
    have ho67 := ho62.go hb15 (fun e => hn6 e)
    refine Zn (Ze (cw_seq (cw_seq (Zr (Zo Z Z Z (Zm Z Z ?_))))))
    have lz6 := ((lz3.trans hl19).trans hl20)
    replace h := bind_some h
    obtain ⟨x8, hx8, h⟩ := h
    refine Zo Z Z Z (Zk Z Z Tryd.call63 (w_spec_l20Rd_pick (hG.mono lz6) hC20.old (VRep.mono lz6 hxs) ho65 hm6 hx8) fun v9 w21 hv9 => ?_)
    obtain ⟨⟨hv9, ho68⟩, hb16⟩ := hv9
    have hl21 := Le.of_bx (Add g3 (Add g2 (Add g1 M))) hb16 (fun b e => (by rw [show b = g from e]; exact hm6))
    have hC21 := hC20.go hb16 (fun b e => Or.inr e)
    have ho69 := ho66.go hb16 (fun e => hn1 e.symm)
    have ho70 := ho67.go hb16 (fun e => hn2 e.symm)
    have ho71 := ho64.go hb16 (fun e => hn4 e.symm)
    obtain rfl := Zi hv9
    refine Zo Z Z Z (ow_eqlI Z Z Z fun bb4 hbb4 => Zn (Ze ?_))
    replace h := Zc h
    rcases h with ⟨hc3, h⟩ | ⟨hc3, h⟩
    ·
     obtain rfl := hbb4.trans hc3
     refine cw_true Z ?_
     replace h := bind_some h
     obtain ⟨x9, hx9, h⟩ := h
     have lz7 := (lz6.trans hl21)
     refine cw_sub (E' := [(0, (Zw g 0)), (1, (Zv a_n)), (4, (Zw g1 0)), (5, (Zw g2 0)), (6, (Zv x3)), (7, (Zw g3 0))]) ⟨Z, Z, Z, Z, Z, Z, Zt⟩ (cw_drawC (g := g) (T := 97) 12 1 [none, none, none, none, none, none, none, none, none, none, none, some 0] [#[(.slice Ax a_xs.length cx), (Zv x8.2)], #[(.slice Ax a_xs.length cx), (Zv x9.2)]] [PEq (Zv x3), PV RSpan (Add g3 (Add g2 (Add g1 M))) ({ Lo := 0, Hi := x3 } : Span), PEq (Zw g3 1), PEq (Zv (W (x6.1 + x7.1))), PV RSpan (Add g3 (Add g2 (Add g1 M))) ({ Lo := 0, Hi := (W (x6.1 + x7.1)) } : Span), PEq (Zw g3 0), PEq (Zv x6.1), PEq (Zv x3), PV RSpan (Add g3 (Add g2 (Add g1 M))) ({ Lo := x6.1, Hi := x3 } : Span), PV (RSlice RSpan) (Add g3 (Add g2 (Add g1 M))) [({ Lo := 0, Hi := x3 } : Span), ({ Lo := 0, Hi := (W (x6.1 + x7.1)) } : Span), ({ Lo := x6.1, Hi := x3 } : Span)], PEq (Zw g 0), PEq (Zv x9.1)] (by kernel_rfl) Z (by kernel_rfl) (by kernel_rfl) ho68 ⟨(PEq.monoY hm6 _), (PV.monoY hm6 _ _), (PEq.monoY hm6 _), (PEq.monoY hm6 _), (PV.monoY hm6 _ _), (PEq.monoY hm6 _), (PEq.monoY hm6 _), (PEq.monoY hm6 _), (PV.monoY hm6 _ _), (PV.monoY hm6 _ _), (PEq.monoY hm6 _), (PEq.monoY hm6 _), Zt⟩ ⟨?_, ?_, ?_, ?_, ?_, ?_, ?_, ?_, ?_, ?_, ?_, ?_, Zt⟩ ?_)
     · exact fun w24 D hS6 hd6 => Zs (E' := [(6, (Zv x3))]) ⟨Z, Zt⟩ (Zp Z (Zm Z Z Zb))
     ·
      intro w25 D hS7 hd7
      refine Zs (E' := [(40, (Zv x3))]) ⟨dpE hd7 0 Z Z, Zt⟩ (Zp Z (ow_build (v := .agg #[(Zv 0), (Zv x3)]) Z Z (by kernel_rfl) ?_))
      have hw7 : VRep RSpan w25 (Add g3 (Add g2 (Add g1 M))) ({ Lo := 0, Hi := x3 } : Span) (.agg #[(Zv 0), (Zv x3)]) := shut_Span
      exact ⟨BX.refl _ _, hw7⟩
     · exact fun w26 D hS8 hd8 => Zs (E' := [(7, (Zw g3 0))]) ⟨Z, Zt⟩ (Zp Z (Zf Z Z Tryd.underlying69 Z (Tryd.sizeOf3 _) Zb))
     ·
      intro w27 D hS9 hd9
      have ho91 := ho71.go hS9 (fun e => hn4 e.symm)
      exact Zs (E' := [(42, (Zw g3 1))]) ⟨dpE hd9 2 Z Z, Zt⟩ (Zp Z (ow_loadOwn1 Z Z Z ho91 (Tryd.isAgg3 _) Z Zb))
     ·
      intro w28 D hS10 hd10
      refine Zs (E' := [(43, (Zv (W (x6.1 + x7.1))))]) ⟨dpE hd10 3 Z Z, Zt⟩ (Zp Z (ow_build (v := .agg #[(Zv 0), (Zv (W (x6.1 + x7.1)))]) Z Z (by kernel_rfl) ?_))
      have hw8 : VRep RSpan w28 (Add g3 (Add g2 (Add g1 M))) ({ Lo := 0, Hi := (W (x6.1 + x7.1)) } : Span) (.agg #[(Zv 0), (Zv (W (x6.1 + x7.1)))]) := shut_Span
      exact ⟨BX.refl _ _, hw8⟩
     · exact fun w29 D hS11 hd11 => Zs (E' := [(7, (Zw g3 0))]) ⟨Z, Zt⟩ (Zp Z (Zf Z Z Tryd.underlying69 Z (Tryd.sizeOf3 _) Zb))
     ·
      intro w30 D hS12 hd12
      have ho100 := ho71.go hS12 (fun e => hn4 e.symm)
      exact Zs (E' := [(45, (Zw g3 0))]) ⟨dpE hd12 5 Z Z, Zt⟩ (Zp Z (ow_loadOwn1 Z Z Z ho100 (Tryd.isAgg3 _) Z Zb))
     · exact fun w31 D hS13 hd13 => Zs (E' := [(6, (Zv x3))]) ⟨Z, Zt⟩ (Zp Z (Zm Z Z Zb))
     ·
      intro w32 D hS14 hd14
      refine Zs (E' := [(46, (Zv x6.1)), (47, (Zv x3))]) ⟨dpE hd14 6 Z Z, dpE hd14 7 Z Z, Zt⟩ (Zp Z (ow_build (v := .agg #[(Zv x6.1), (Zv x3)]) Z Z (by kernel_rfl) ?_))
      have hw9 : VRep RSpan w32 (Add g3 (Add g2 (Add g1 M))) ({ Lo := x6.1, Hi := x3 } : Span) (.agg #[(Zv x6.1), (Zv x3)]) := shut_Span
      exact ⟨BX.refl _ _, hw9⟩
     ·
      intro w33 D hS15 hd15
      have hC33 := hC21.go hS15 (fun b e => Or.inr e)
      have d13 : PV RSpan (Add g3 (Add g2 (Add g1 M))) ({ Lo := 0, Hi := x3 } : Span) (D 1) w33 := dpA hd15 1 Z
      have d14 : PV RSpan (Add g3 (Add g2 (Add g1 M))) ({ Lo := 0, Hi := (W (x6.1 + x7.1)) } : Span) (D 4) w33 := dpA hd15 4 Z
      have d15 : PV RSpan (Add g3 (Add g2 (Add g1 M))) ({ Lo := x6.1, Hi := x3 } : Span) (D 8) w33 := dpA hd15 8 Z
      generalize hq1 : (D 1) = v11 at d13
      generalize hq2 : (D 4) = v12 at d14
      generalize hq3 : (D 8) = v13 at d15
      refine Zs (E' := [(41, v11), (44, v12), (48, v13)]) ⟨congrArg some hq1, congrArg some hq2, congrArg some hq3, Zt⟩ ?_
      obtain rfl := open_Span d13
      obtain rfl := open_Span d14
      obtain rfl := open_Span d15
      exact Zp Z (ow_buildSlice (R := RSpan) (xs := [({ Lo := 0, Hi := x3 } : Span), ({ Lo := 0, Hi := (W (x6.1 + x7.1)) } : Span), ({ Lo := x6.1, Hi := x3 } : Span)]) (cs := #[(Zv ({ Lo := 0, Hi := x3 } : Span).Lo), (Zv ({ Lo := 0, Hi := x3 } : Span).Hi), (Zv ({ Lo := 0, Hi := (W (x6.1 + x7.1)) } : Span).Lo), (Zv ({ Lo := 0, Hi := (W (x6.1 + x7.1)) } : Span).Hi), (Zv ({ Lo := x6.1, Hi := x3 } : Span).Lo), (Zv ({ Lo := x6.1, Hi := x3 } : Span).Hi)]) (e := 69) Z Z (by kernel_rfl) Z Z ⟨_, _, Z, d13.cells, _, _, Z, d14.cells, _, _, Z, d15.cells, Z⟩ hC33 fun p2 w34 hw10 hb19 hl34 hC34 => ⟨hb19, hw10⟩)
     · exact fun w35 D hS16 hd16 => Zs (E' := [(0, (Zw g 0))]) ⟨Z, Zt⟩ (Zp Z (Zm Z Z Zb))
     ·
      intro w36 D hS17 hd17
      obtain ⟨hS17, ho116⟩ := hS17
      have ho116 : Own w36 g 97 #[(.slice Ax a_xs.length cx), (Zv x8.2)] := ho116
      have hl36 := leY hm6 hS17
      have hC36 := hC21.go hS17 (fun b e => Or.inr e)
      refine Zs (E' := [(50, (Zw g 0))]) ⟨dpE hd17 10 Z Z, Zt⟩ (Zp Z (Zk Z Z Tryd.call63 (w_spec_l20Rd_pick (hG.mono (lz7.trans hl36)) hC36.old (VRep.mono (lz7.trans hl36) hxs) ho116 hm6 hx9) fun v14 w37 hv14 => ?_))
      obtain ⟨⟨hv14, ho120⟩, hb20⟩ := hv14
      obtain rfl := Zi hv14
      exact ⟨⟨⟨hS17.trans hb20, ho120⟩, hb20⟩, Z⟩
     ·
      intro w38 D hS18 hd18
      have d26 : PV (RSlice RSpan) (Add g3 (Add g2 (Add g1 M))) [({ Lo := 0, Hi := x3 } : Span), ({ Lo := 0, Hi := (W (x6.1 + x7.1)) } : Span), ({ Lo := x6.1, Hi := x3 } : Span)] (D 9) w38 := dpA hd18 9 Z
      obtain ⟨hS18, ho124⟩ := hS18
      have ho124 : Own w38 g 97 #[(.slice Ax a_xs.length cx), (Zv x9.2)] := ho124
      have hl38 := leY hm6 hS18
      have hC38 := hC21.go hS18 (fun b e => Or.inr e)
      have ho125 := ho69.go hS18 (fun e => hn1 e.symm)
      have ho126 := ho70.go hS18 (fun e => hn2 e.symm)
      have ho127 := ho71.go hS18 (fun e => hn4 e.symm)
      generalize hq4 : (D 9) = v15 at d26
      refine lw_sub (E' := [(49, v15), (51, (Zv x9.1)), (0, (Zw g 0)), (1, (Zv a_n)), (4, (Zw g1 0)), (5, (Zw g2 0)), (6, (Zv x3)), (7, (Zw g3 0))]) ⟨congrArg some hq4, dpE hd18 11 Z Z, Z, Z, Z, Z, Z, Z, Zt⟩ ?_
      replace h := bind_some h
      obtain ⟨x10, hx10, h⟩ := h
      refine Zo Z Z Z (Zx (R := RSpan) Z Z Z d26 Tryd.underlying59 (Tryd.sizeOf69 _) hx10 fun p3 hp3 => Zo Z Z Z (Zl (R := RSpan) Z Z hp3 (Tryd.sizeOf69 _) (Tryd.isAgg69 _) fun v16 hv16 => ?_))
      obtain rfl := open_Span hv16
      refine lw_op0 Z Z (ow_store (X := (One g)) (us := [(Zv x10.Lo), (Zv x10.Hi)]) (cs' := #[(Zv x10.Lo), (Zv x10.Hi)]) Z Z Z Z ho127 (Tryd.sizeOf69 _) Z Z Z Z hm9 (.inl hg6) Z hC38 fun w39 ho128 hb21 hl39 hC39 => ?_)
      have ho129 := ho124.go hb21 (fun e => hn4 e)
      have ho130 := ho125.go hb21 (fun e => hn5 e)
      have ho131 := ho126.go hb21 (fun e => hn6 e)
      refine Zn (Ze (cw_seq (Zr (Zo Z Z Z (Zf Z Z Tryd.underlying69 Z (Tryd.sizeOf3 _) (Zo Z Z Z (ow_loadOwn1 Z Z Z ho128 (Tryd.isAgg3 _) Z (Zo Z Z Z (Zf Z Z Tryd.underlying133 Z (Tryd.sizeOf3 _) (lw_op0 Z Z (ow_store (X := (One g)) (us := [(Zv x10.Lo)]) (cs' := #[(Zv x1.1), (Zv x10.Lo), (Zv 0), (.bool bb1)]) Z Z Z Z ho131 (Tryd.sizeOf3 _) Z Z Z Z hm8 (.inl hg4) Z hC39 fun w40 ho132 hb22 hl40 hC40 => ?_)))))))))))
      have ho133 := ho129.go hb22 (fun e => hn2 e)
      have ho134 := ho130.go hb22 (fun e => hn3 e)
      have ho135 := ho128.go hb22 (fun e => hn6 e.symm)
      refine Zn (Ze (cw_seq (Zr (Zo Z Z Z (Zf Z Z Tryd.underlying69 Z (Tryd.sizeOf3 _) (Zo Z Z Z (ow_loadOwn1 Z Z Z ho135 (Tryd.isAgg3 _) Z (Zo Z Z Z (Zf Z Z Tryd.underlying133 Z (Tryd.sizeOf3 _) (lw_op0 Z Z (ow_store (X := (One g)) (us := [(Zv x10.Hi)]) (cs' := #[(Zv x1.1), (Zv x10.Lo), (Zv x10.Hi), (.bool bb1)]) Z Z Z Z ho132 (Tryd.sizeOf3 _) Z Z Z Z hm8 (.inl hg4) Z hC40 fun w41 ho136 hb23 hl41 hC41 => ?_)))))))))))
      have ho137 := ho133.go hb23 (fun e => hn2 e)
      have ho138 := ho134.go hb23 (fun e => hn3 e)
      refine Zn (Ze (cw_seq (cw_seq (Zr (Zo Z Z Z (Zm Z Z (Zo Z Z Z (Zm Z Z ?_))))))))
      have lz8 := ((((lz7.trans hl38).trans hl39).trans hl40).trans hl41)
      replace h := bind_some h
      obtain ⟨x11, hx11, h⟩ := h
      refine Zo Z Z Z (Zk Z Z Tryd.call83 (w_spec_l20Rd_odd (hG.mono lz8) hC41.old (VRep.mono lz8 hxs) ho137 hm6 hx11) fun v17 w42 hv17 => ?_)
      obtain ⟨⟨hv17, ho140⟩, hb24⟩ := hv17
      have hl42 := Le.of_bx (Add g3 (Add g2 (Add g1 M))) hb24 (fun b e => (by rw [show b = g from e]; exact hm6))
      have hC42 := hC41.go hb24 (fun b e => Or.inr e)
      have ho141 := ho138.go hb24 (fun e => hn1 e.symm)
      have ho142 := ho136.go hb24 (fun e => hn2 e.symm)
      obtain ⟨bb5, hbb5, rfl⟩ := vbool_ex hv17
      refine Zn (Ze ?_)
      replace h := Zc h
      rcases h with ⟨hc4, h⟩ | ⟨hc4, h⟩
      ·
       obtain rfl := hbb5.trans hc4
       refine cw_true Z (cw_seq (Zr (Zo Z Z Z (Zm Z Z ?_))))
       replace h := bind_some h
       obtain ⟨x12, hx12, h⟩ := h
       refine Zo Z Z Z (Zk Z Z Tryd.call63 (w_spec_l20Rd_pick (hG.mono (lz8.trans hl42)) hC42.old (VRep.mono (lz8.trans hl42) hxs) ho140 hm6 hx12) fun v18 w43 hv18 => ?_)
       obtain ⟨⟨hv18, ho144⟩, hb25⟩ := hv18
       have hl43 := Le.of_bx (Add g3 (Add g2 (Add g1 M))) hb25 (fun b e => (by rw [show b = g from e]; exact hm6))
       have hC43 := hC42.go hb25 (fun b e => Or.inr e)
       have ho145 := ho141.go hb25 (fun e => hn1 e.symm)
       have ho146 := ho142.go hb25 (fun e => hn2 e.symm)
       obtain rfl := Zi hv18
       refine Zn (Ze (cw_block (cw_seq (Zr (Zo Z Z Z (ow_eqlI Z Z Z fun bb6 hbb6 => Zo Z Z Z (Za Z Z (Zn (Ze ?_)))))))))
       replace h := Zc h
       rcases h with ⟨hc5, h⟩ | ⟨hc5, h⟩
       ·
        obtain rfl := hbb6.trans hc5
        refine cw_true Z (Zr (Zo Z Z Z (ow_buildSlice (R := RInt) (xs := [(-1), 4]) (cs := #[(Zv (-1)), (Zv 4)]) (e := 3) Z Z (by kernel_rfl) Z Z ⟨_, _, Z, (vint _).cells, _, _, Z, (vint _).cells, Z⟩ hC43 fun p4 w44 hw11 hb26 hl44 hC44 => ?_)))
        have ho148 := ho144.no hb26
        have ho149 := ho145.no hb26
        have ho150 := ho146.no hb26
        refine Zo Z Z Z (Zm Z Z ?_)
        have lz9 := (((lz8.trans hl42).trans hl43).trans hl44)
        replace h := bind_some h
        obtain ⟨x13, hx13, h⟩ := h
        refine Zo Z Z Z (Zk Z Z Tryd.call63 (w_spec_l20Rd_pick (hG.mono lz9) hC44.old (VRep.mono lz9 hxs) ho148 hm6 hx13) fun v19 w45 hv19 => ?_)
        obtain ⟨⟨hv19, ho152⟩, hb27⟩ := hv19
        have hl45 := Le.of_bx (Add g3 (Add g2 (Add g1 M))) hb27 (fun b e => (by rw [show b = g from e]; exact hm6))
        have hC45 := hC44.go hb27 (fun b e => Or.inr e)
        have ho153 := ho149.go hb27 (fun e => hn1 e.symm)
        have ho154 := ho150.go hb27 (fun e => hn2 e.symm)
        obtain rfl := Zi hv19
        replace h := bind_some h
        obtain ⟨x14, hx14, h⟩ := h
        refine Zo Z Z Z (Zx (R := RInt) Z Z Z (VRep.mono hl45 hw11) Tryd.underlying70 (Tryd.sizeOf3 _) hx14 fun p5 hp5 => Zo Z Z Z (Zl (R := RInt) Z Z hp5 (Tryd.sizeOf3 _) (Tryd.isAgg3 _) fun v20 hv20 => ?_))
        obtain rfl := Zi hv20
        refine Zo Z Z Z (Zf Z Z Tryd.underlying133 Z (Tryd.sizeOf3 _) (lw_op0 Z Z (ow_store (X := (One g)) (us := [(Zv x14)]) (cs' := #[(Zv x14), (Zv x10.Lo), (Zv x10.Hi), (.bool bb1)]) Z Z Z Z ho154 (Tryd.sizeOf3 _) Z Z Z Z hm8 (.inl hg4) Z hC45 fun w46 ho156 hb28 hl46 hC46 => ?_)))
        have ho157 := ho152.go hb28 (fun e => hn2 e)
        have ho158 := ho153.go hb28 (fun e => hn3 e)
        refine Zn (ew_blockN (Ze (cw_seq (Zr (Zo Z Z Z (ow_loadOwnA Z Z Z ho156 (Tryd.isAgg133 _) (Tryd.sizeOf133 _) Z (lw_op0 Z Z (ow_store (X := (One g)) (us := [(Zv x14), (Zv x10.Lo), (Zv x10.Hi), (.bool bb1)]) (cs' := #[(Zv x14), (Zv x10.Lo), (Zv x10.Hi), (.bool bb1)]) Z Z Z Z ho158 (Tryd.sizeOf133 _) Z Z Z Z hm7 (.inl hg2) Z hC46 fun w47 ho160 hb29 hl47 hC47 => ?_))))))))
        have ho161 := ho157.go hb29 (fun e => hn1 e)
        refine Zn (Ze (Zy ?_))
        have hw13 : VRep RTest w47 (Add g3 (Add g2 (Add g1 M))) ({ Field := x14, Lo := x10.Lo, Hi := x10.Hi, Not := (x2.1 == 0) } : Test) (.agg #[(Zv x14), (Zv x10.Lo), (Zv x10.Hi), (.bool bb1)]) := by subst hbb1; exact shut_Test
        obtain rfl := sj h
        exact ew_ret (res1 Z (.cell Z (own_loadVarA ho160 (Tryd.isAgg133 _) (Tryd.sizeOf133 _) Z))) ⟨_, Z, ⟨(hw13.mono hC47.back), ho161⟩, hC47.bx⟩
       ·
        obtain rfl := hbb6.trans hc5
        refine Zu Z (cw_seq (Zr (Zo Z Z Z (ow_eqlI Z Z Z fun bb7 hbb7 => Zo Z Z Z (Za Z Z (Zn (Ze ?_)))))))
        replace h := Zc h
        rcases h with ⟨hc6, h⟩ | ⟨hc6, h⟩
        ·
         obtain rfl := hbb7.trans hc6
         refine cw_true Z (Zr (Zo Z Z Z (Zf Z Z Tryd.underlying133 Z (Tryd.sizeOf3 _) (Zo Z Z Z (ow_loadOwn1 Z Z Z ho146 (Tryd.isAgg3 _) Z (Zo Z Z Z (ow_add Z Z Z (Zo Z Z Z (Zf Z Z Tryd.underlying133 Z (Tryd.sizeOf3 _) (lw_op0 Z Z (ow_store (X := (One g)) (us := [(Zv (W (x10.Hi + 1)))]) (cs' := #[(Zv x1.1), (Zv (W (x10.Hi + 1))), (Zv x10.Hi), (.bool bb1)]) Z Z Z Z ho146 (Tryd.sizeOf3 _) Z Z Z Z hm8 (.inl hg4) Z hC43 fun w48 ho164 hb30 hl48 hC48 => ?_)))))))))))
         have ho165 := ho144.go hb30 (fun e => hn2 e)
         have ho166 := ho145.go hb30 (fun e => hn3 e)
         refine Zn (ew_blockN (Ze (cw_seq (Zr (Zo Z Z Z (ow_loadOwnA Z Z Z ho164 (Tryd.isAgg133 _) (Tryd.sizeOf133 _) Z (lw_op0 Z Z (ow_store (X := (One g)) (us := [(Zv x1.1), (Zv (W (x10.Hi + 1))), (Zv x10.Hi), (.bool bb1)]) (cs' := #[(Zv x1.1), (Zv (W (x10.Hi + 1))), (Zv x10.Hi), (.bool bb1)]) Z Z Z Z ho166 (Tryd.sizeOf133 _) Z Z Z Z hm7 (.inl hg2) Z hC48 fun w49 ho168 hb31 hl49 hC49 => ?_))))))))
         have ho169 := ho165.go hb31 (fun e => hn1 e)
         refine Zn (Ze (Zy ?_))
         have hw15 : VRep RTest w49 (Add g3 (Add g2 (Add g1 M))) ({ Field := x1.1, Lo := (W (x10.Hi + 1)), Hi := x10.Hi, Not := (x2.1 == 0) } : Test) (.agg #[(Zv x1.1), (Zv (W (x10.Hi + 1))), (Zv x10.Hi), (.bool bb1)]) := by subst hbb1; exact shut_Test
         obtain rfl := sj h
         exact ew_ret (res1 Z (.cell Z (own_loadVarA ho168 (Tryd.isAgg133 _) (Tryd.sizeOf133 _) Z))) ⟨_, Z, ⟨(hw15.mono hC49.back), ho169⟩, hC49.bx⟩
        ·
         obtain rfl := hbb7.trans hc6
         refine Zu Z (Zr (Zo Z Z Z (Zm Z Z (Zo Z Z Z (ow_add Z Z Z (Zo Z Z Z (Zf Z Z Tryd.underlying133 Z (Tryd.sizeOf3 _) (lw_op0 Z Z (ow_store (X := (One g)) (us := [(Zv (W (x3 + 1)))]) (cs' := #[(Zv x1.1), (Zv x10.Lo), (Zv (W (x3 + 1))), (.bool bb1)]) Z Z Z Z ho146 (Tryd.sizeOf3 _) Z Z Z Z hm8 (.inl hg4) Z hC43 fun w50 ho172 hb32 hl50 hC50 => ?_)))))))))
         have ho173 := ho144.go hb32 (fun e => hn2 e)
         have ho174 := ho145.go hb32 (fun e => hn3 e)
         refine Zn (ew_blockN (Ze (cw_seq (Zr (Zo Z Z Z (ow_loadOwnA Z Z Z ho172 (Tryd.isAgg133 _) (Tryd.sizeOf133 _) Z (lw_op0 Z Z (ow_store (X := (One g)) (us := [(Zv x1.1), (Zv x10.Lo), (Zv (W (x3 + 1))), (.bool bb1)]) (cs' := #[(Zv x1.1), (Zv x10.Lo), (Zv (W (x3 + 1))), (.bool bb1)]) Z Z Z Z ho174 (Tryd.sizeOf133 _) Z Z Z Z hm7 (.inl hg2) Z hC50 fun w51 ho176 hb33 hl51 hC51 => ?_))))))))
         have ho177 := ho173.go hb33 (fun e => hn1 e)
         refine Zn (Ze (Zy ?_))
         have hw17 : VRep RTest w51 (Add g3 (Add g2 (Add g1 M))) ({ Field := x1.1, Lo := x10.Lo, Hi := (W (x3 + 1)), Not := (x2.1 == 0) } : Test) (.agg #[(Zv x1.1), (Zv x10.Lo), (Zv (W (x3 + 1))), (.bool bb1)]) := by subst hbb1; exact shut_Test
         obtain rfl := sj h
         exact ew_ret (res1 Z (.cell Z (own_loadVarA ho176 (Tryd.isAgg133 _) (Tryd.sizeOf133 _) Z))) ⟨_, Z, ⟨(hw17.mono hC51.back), ho177⟩, hC51.bx⟩
      ·
       obtain rfl := hbb5.trans hc4
       refine Zu Z (cw_skip (Ze (cw_seq (Zr (Zo Z Z Z (ow_loadOwnA Z Z Z ho142 (Tryd.isAgg133 _) (Tryd.sizeOf133 _) Z (lw_op0 Z Z (ow_store (X := (One g)) (us := [(Zv x1.1), (Zv x10.Lo), (Zv x10.Hi), (.bool bb1)]) (cs' := #[(Zv x1.1), (Zv x10.Lo), (Zv x10.Hi), (.bool bb1)]) Z Z Z Z ho141 (Tryd.sizeOf133 _) Z Z Z Z hm7 (.inl hg2) Z hC42 fun w52 ho180 hb34 hl52 hC52 => ?_))))))))
       have ho181 := ho140.go hb34 (fun e => hn1 e)
       refine Zn (Ze (Zy ?_))
       have hw19 : VRep RTest w52 (Add g3 (Add g2 (Add g1 M))) ({ Field := x1.1, Lo := x10.Lo, Hi := x10.Hi, Not := (x2.1 == 0) } : Test) (.agg #[(Zv x1.1), (Zv x10.Lo), (Zv x10.Hi), (.bool bb1)]) := by subst hbb1; exact shut_Test
       obtain rfl := sj h
       exact ew_ret (res1 Z (.cell Z (own_loadVarA ho180 (Tryd.isAgg133 _) (Tryd.sizeOf133 _) Z))) ⟨_, Z, ⟨(hw19.mono hC52.back), ho181⟩, hC52.bx⟩
    ·
     obtain rfl := hbb4.trans hc3
     refine Zu Z (cw_skip (Ze (cw_seq (Zr (Zo Z Z Z (Zf Z Z Tryd.underlying69 Z (Tryd.sizeOf3 _) (Zo Z Z Z (ow_loadOwn1 Z Z Z ho71 (Tryd.isAgg3 _) Z (Zo Z Z Z (Zf Z Z Tryd.underlying133 Z (Tryd.sizeOf3 _) (lw_op0 Z Z (ow_store (X := (One g)) (us := [(Zv x6.1)]) (cs' := #[(Zv x1.1), (Zv x6.1), (Zv 0), (.bool bb1)]) Z Z Z Z ho70 (Tryd.sizeOf3 _) Z Z Z Z hm8 (.inl hg4) Z hC21 fun w53 ho184 hb35 hl53 hC53 => ?_))))))))))))
     have ho185 := ho68.go hb35 (fun e => hn2 e)
     have ho186 := ho69.go hb35 (fun e => hn3 e)
     have ho187 := ho71.go hb35 (fun e => hn6 e.symm)
     refine Zn (Ze (cw_seq (Zr (Zo Z Z Z (Zf Z Z Tryd.underlying69 Z (Tryd.sizeOf3 _) (Zo Z Z Z (ow_loadOwn1 Z Z Z ho187 (Tryd.isAgg3 _) Z (Zo Z Z Z (Zf Z Z Tryd.underlying133 Z (Tryd.sizeOf3 _) (lw_op0 Z Z (ow_store (X := (One g)) (us := [(Zv (W (x6.1 + x7.1)))]) (cs' := #[(Zv x1.1), (Zv x6.1), (Zv (W (x6.1 + x7.1))), (.bool bb1)]) Z Z Z Z ho184 (Tryd.sizeOf3 _) Z Z Z Z hm8 (.inl hg4) Z hC53 fun w54 ho188 hb36 hl54 hC54 => ?_)))))))))))
     have ho189 := ho185.go hb36 (fun e => hn2 e)
     have ho190 := ho186.go hb36 (fun e => hn3 e)
     refine Zn (Ze (cw_seq (cw_seq (Zr (Zo Z Z Z (Zm Z Z (Zo Z Z Z (Zm Z Z ?_))))))))
     have lz10 := (((lz6.trans hl21).trans hl53).trans hl54)
     replace h := bind_some h
     obtain ⟨x15, hx15, h⟩ := h
     refine Zo Z Z Z (Zk Z Z Tryd.call83 (w_spec_l20Rd_odd (hG.mono lz10) hC54.old (VRep.mono lz10 hxs) ho189 hm6 hx15) fun v21 w55 hv21 => ?_)
     obtain ⟨⟨hv21, ho192⟩, hb37⟩ := hv21
     have hl55 := Le.of_bx (Add g3 (Add g2 (Add g1 M))) hb37 (fun b e => (by rw [show b = g from e]; exact hm6))
     have hC55 := hC54.go hb37 (fun b e => Or.inr e)
     have ho193 := ho190.go hb37 (fun e => hn1 e.symm)
     have ho194 := ho188.go hb37 (fun e => hn2 e.symm)
     obtain ⟨bb8, hbb8, rfl⟩ := vbool_ex hv21
     refine Zn (Ze ?_)
     replace h := Zc h
     rcases h with ⟨hc7, h⟩ | ⟨hc7, h⟩
     ·
      obtain rfl := hbb8.trans hc7
      refine cw_true Z (cw_seq (Zr (Zo Z Z Z (Zm Z Z ?_))))
      replace h := bind_some h
      obtain ⟨x16, hx16, h⟩ := h
      refine Zo Z Z Z (Zk Z Z Tryd.call63 (w_spec_l20Rd_pick (hG.mono (lz10.trans hl55)) hC55.old (VRep.mono (lz10.trans hl55) hxs) ho192 hm6 hx16) fun v22 w56 hv22 => ?_)
      obtain ⟨⟨hv22, ho196⟩, hb38⟩ := hv22
      have hl56 := Le.of_bx (Add g3 (Add g2 (Add g1 M))) hb38 (fun b e => (by rw [show b = g from e]; exact hm6))
      have hC56 := hC55.go hb38 (fun b e => Or.inr e)
      have ho197 := ho193.go hb38 (fun e => hn1 e.symm)
      have ho198 := ho194.go hb38 (fun e => hn2 e.symm)
      obtain rfl := Zi hv22
      refine Zn (Ze (cw_block (cw_seq (Zr (Zo Z Z Z (ow_eqlI Z Z Z fun bb9 hbb9 => Zo Z Z Z (Za Z Z (Zn (Ze ?_)))))))))
      replace h := Zc h
      rcases h with ⟨hc8, h⟩ | ⟨hc8, h⟩
      ·
       obtain rfl := hbb9.trans hc8
       refine cw_true Z (Zr (Zo Z Z Z (ow_buildSlice (R := RInt) (xs := [(-1), 4]) (cs := #[(Zv (-1)), (Zv 4)]) (e := 3) Z Z (by kernel_rfl) Z Z ⟨_, _, Z, (vint _).cells, _, _, Z, (vint _).cells, Z⟩ hC56 fun p6 w57 hw20 hb39 hl57 hC57 => ?_)))
       have ho200 := ho196.no hb39
       have ho201 := ho197.no hb39
       have ho202 := ho198.no hb39
       refine Zo Z Z Z (Zm Z Z ?_)
       have lz11 := (((lz10.trans hl55).trans hl56).trans hl57)
       replace h := bind_some h
       obtain ⟨x17, hx17, h⟩ := h
       refine Zo Z Z Z (Zk Z Z Tryd.call63 (w_spec_l20Rd_pick (hG.mono lz11) hC57.old (VRep.mono lz11 hxs) ho200 hm6 hx17) fun v23 w58 hv23 => ?_)
       obtain ⟨⟨hv23, ho204⟩, hb40⟩ := hv23
       have hl58 := Le.of_bx (Add g3 (Add g2 (Add g1 M))) hb40 (fun b e => (by rw [show b = g from e]; exact hm6))
       have hC58 := hC57.go hb40 (fun b e => Or.inr e)
       have ho205 := ho201.go hb40 (fun e => hn1 e.symm)
       have ho206 := ho202.go hb40 (fun e => hn2 e.symm)
       obtain rfl := Zi hv23
       replace h := bind_some h
       obtain ⟨x18, hx18, h⟩ := h
       refine Zo Z Z Z (Zx (R := RInt) Z Z Z (VRep.mono hl58 hw20) Tryd.underlying70 (Tryd.sizeOf3 _) hx18 fun p7 hp7 => Zo Z Z Z (Zl (R := RInt) Z Z hp7 (Tryd.sizeOf3 _) (Tryd.isAgg3 _) fun v24 hv24 => ?_))
       obtain rfl := Zi hv24
       refine Zo Z Z Z (Zf Z Z Tryd.underlying133 Z (Tryd.sizeOf3 _) (lw_op0 Z Z (ow_store (X := (One g)) (us := [(Zv x18)]) (cs' := #[(Zv x18), (Zv x6.1), (Zv (W (x6.1 + x7.1))), (.bool bb1)]) Z Z Z Z ho206 (Tryd.sizeOf3 _) Z Z Z Z hm8 (.inl hg4) Z hC58 fun w59 ho208 hb41 hl59 hC59 => ?_)))
       have ho209 := ho204.go hb41 (fun e => hn2 e)
       have ho210 := ho205.go hb41 (fun e => hn3 e)
       refine Zn (ew_blockN (Ze (cw_seq (Zr (Zo Z Z Z (ow_loadOwnA Z Z Z ho208 (Tryd.isAgg133 _) (Tryd.sizeOf133 _) Z (lw_op0 Z Z (ow_store (X := (One g)) (us := [(Zv x18), (Zv x6.1), (Zv (W (x6.1 + x7.1))), (.bool bb1)]) (cs' := #[(Zv x18), (Zv x6.1), (Zv (W (x6.1 + x7.1))), (.bool bb1)]) Z Z Z Z ho210 (Tryd.sizeOf133 _) Z Z Z Z hm7 (.inl hg2) Z hC59 fun w60 ho212 hb42 hl60 hC60 => ?_))))))))
       have ho213 := ho209.go hb42 (fun e => hn1 e)
       refine Zn (Ze (Zy ?_))
       have hw22 : VRep RTest w60 (Add g3 (Add g2 (Add g1 M))) ({ Field := x18, Lo := x6.1, Hi := (W (x6.1 + x7.1)), Not := (x2.1 == 0) } : Test) (.agg #[(Zv x18), (Zv x6.1), (Zv (W (x6.1 + x7.1))), (.bool bb1)]) := by subst hbb1; exact shut_Test
       obtain rfl := sj h
       exact ew_ret (res1 Z (.cell Z (own_loadVarA ho212 (Tryd.isAgg133 _) (Tryd.sizeOf133 _) Z))) ⟨_, Z, ⟨(hw22.mono hC60.back), ho213⟩, hC60.bx⟩
      ·
       obtain rfl := hbb9.trans hc8
       refine Zu Z (cw_seq (Zr (Zo Z Z Z (ow_eqlI Z Z Z fun bb10 hbb10 => Zo Z Z Z (Za Z Z (Zn (Ze ?_)))))))
       replace h := Zc h
       rcases h with ⟨hc9, h⟩ | ⟨hc9, h⟩
       ·
        obtain rfl := hbb10.trans hc9
        refine cw_true Z (Zr (Zo Z Z Z (Zf Z Z Tryd.underlying133 Z (Tryd.sizeOf3 _) (Zo Z Z Z (ow_loadOwn1 Z Z Z ho198 (Tryd.isAgg3 _) Z (Zo Z Z Z (ow_add Z Z Z (Zo Z Z Z (Zf Z Z Tryd.underlying133 Z (Tryd.sizeOf3 _) (lw_op0 Z Z (ow_store (X := (One g)) (us := [(Zv (W ((W (x6.1 + x7.1)) + 1)))]) (cs' := #[(Zv x1.1), (Zv (W ((W (x6.1 + x7.1)) + 1))), (Zv (W (x6.1 + x7.1))), (.bool bb1)]) Z Z Z Z ho198 (Tryd.sizeOf3 _) Z Z Z Z hm8 (.inl hg4) Z hC56 fun w61 ho216 hb43 hl61 hC61 => ?_)))))))))))
        have ho217 := ho196.go hb43 (fun e => hn2 e)
        have ho218 := ho197.go hb43 (fun e => hn3 e)
        refine Zn (ew_blockN (Ze (cw_seq (Zr (Zo Z Z Z (ow_loadOwnA Z Z Z ho216 (Tryd.isAgg133 _) (Tryd.sizeOf133 _) Z (lw_op0 Z Z (ow_store (X := (One g)) (us := [(Zv x1.1), (Zv (W ((W (x6.1 + x7.1)) + 1))), (Zv (W (x6.1 + x7.1))), (.bool bb1)]) (cs' := #[(Zv x1.1), (Zv (W ((W (x6.1 + x7.1)) + 1))), (Zv (W (x6.1 + x7.1))), (.bool bb1)]) Z Z Z Z ho218 (Tryd.sizeOf133 _) Z Z Z Z hm7 (.inl hg2) Z hC61 fun w62 ho220 hb44 hl62 hC62 => ?_))))))))
        have ho221 := ho217.go hb44 (fun e => hn1 e)
        refine Zn (Ze (Zy ?_))
        have hw24 : VRep RTest w62 (Add g3 (Add g2 (Add g1 M))) ({ Field := x1.1, Lo := (W ((W (x6.1 + x7.1)) + 1)), Hi := (W (x6.1 + x7.1)), Not := (x2.1 == 0) } : Test) (.agg #[(Zv x1.1), (Zv (W ((W (x6.1 + x7.1)) + 1))), (Zv (W (x6.1 + x7.1))), (.bool bb1)]) := by subst hbb1; exact shut_Test
        obtain rfl := sj h
        exact ew_ret (res1 Z (.cell Z (own_loadVarA ho220 (Tryd.isAgg133 _) (Tryd.sizeOf133 _) Z))) ⟨_, Z, ⟨(hw24.mono hC62.back), ho221⟩, hC62.bx⟩
       ·
        obtain rfl := hbb10.trans hc9
        refine Zu Z (Zr (Zo Z Z Z (Zm Z Z (Zo Z Z Z (ow_add Z Z Z (Zo Z Z Z (Zf Z Z Tryd.underlying133 Z (Tryd.sizeOf3 _) (lw_op0 Z Z (ow_store (X := (One g)) (us := [(Zv (W (x3 + 1)))]) (cs' := #[(Zv x1.1), (Zv x6.1), (Zv (W (x3 + 1))), (.bool bb1)]) Z Z Z Z ho198 (Tryd.sizeOf3 _) Z Z Z Z hm8 (.inl hg4) Z hC56 fun w63 ho224 hb45 hl63 hC63 => ?_)))))))))
        have ho225 := ho196.go hb45 (fun e => hn2 e)
        have ho226 := ho197.go hb45 (fun e => hn3 e)
        refine Zn (ew_blockN (Ze (cw_seq (Zr (Zo Z Z Z (ow_loadOwnA Z Z Z ho224 (Tryd.isAgg133 _) (Tryd.sizeOf133 _) Z (lw_op0 Z Z (ow_store (X := (One g)) (us := [(Zv x1.1), (Zv x6.1), (Zv (W (x3 + 1))), (.bool bb1)]) (cs' := #[(Zv x1.1), (Zv x6.1), (Zv (W (x3 + 1))), (.bool bb1)]) Z Z Z Z ho226 (Tryd.sizeOf133 _) Z Z Z Z hm7 (.inl hg2) Z hC63 fun w64 ho228 hb46 hl64 hC64 => ?_))))))))
        have ho229 := ho225.go hb46 (fun e => hn1 e)
        refine Zn (Ze (Zy ?_))
        have hw26 : VRep RTest w64 (Add g3 (Add g2 (Add g1 M))) ({ Field := x1.1, Lo := x6.1, Hi := (W (x3 + 1)), Not := (x2.1 == 0) } : Test) (.agg #[(Zv x1.1), (Zv x6.1), (Zv (W (x3 + 1))), (.bool bb1)]) := by subst hbb1; exact shut_Test
        obtain rfl := sj h
        exact ew_ret (res1 Z (.cell Z (own_loadVarA ho228 (Tryd.isAgg133 _) (Tryd.sizeOf133 _) Z))) ⟨_, Z, ⟨(hw26.mono hC64.back), ho229⟩, hC64.bx⟩
     ·
      obtain rfl := hbb8.trans hc7
      refine Zu Z (cw_skip (Ze (cw_seq (Zr (Zo Z Z Z (ow_loadOwnA Z Z Z ho194 (Tryd.isAgg133 _) (Tryd.sizeOf133 _) Z (lw_op0 Z Z (ow_store (X := (One g)) (us := [(Zv x1.1), (Zv x6.1), (Zv (W (x6.1 + x7.1))), (.bool bb1)]) (cs' := #[(Zv x1.1), (Zv x6.1), (Zv (W (x6.1 + x7.1))), (.bool bb1)]) Z Z Z Z ho193 (Tryd.sizeOf133 _) Z Z Z Z hm7 (.inl hg2) Z hC55 fun w65 ho232 hb47 hl65 hC65 => ?_))))))))
      have ho233 := ho192.go hb47 (fun e => hn1 e)
      refine Zn (Ze (Zy ?_))
      have hw28 : VRep RTest w65 (Add g3 (Add g2 (Add g1 M))) ({ Field := x1.1, Lo := x6.1, Hi := (W (x6.1 + x7.1)), Not := (x2.1 == 0) } : Test) (.agg #[(Zv x1.1), (Zv x6.1), (Zv (W (x6.1 + x7.1))), (.bool bb1)]) := by subst hbb1; exact shut_Test
      obtain rfl := sj h
      exact ew_ret (res1 Z (.cell Z (own_loadVarA ho232 (Tryd.isAgg133 _) (Tryd.sizeOf133 _) Z))) ⟨_, Z, ⟨(hw28.mono hC65.back), ho233⟩, hC65.bx⟩
  ·
   obtain rfl := hbb3.trans hc2
   refine Zu Z (cw_skip (Ze (cw_seq (cw_seq (Zr (Zo Z Z Z (Zm Z Z ?_)))))))
   replace h := bind_some h
   obtain ⟨x19, hx19, h⟩ := h
   refine Zo Z Z Z (Zk Z Z Tryd.call63 (w_spec_l20Rd_pick (hG.mono (lz2.trans hl10)) hC10.old (VRep.mono (lz2.trans hl10) hxs) ho27 hm6 hx19) fun v25 w66 hv25 => ?_)
   obtain ⟨⟨hv25, ho236⟩, hb48⟩ := hv25
   have hl66 := Le.of_bx (Add g3 (Add g2 (Add g1 M))) hb48 (fun b e => (by rw [show b = g from e]; exact hm6))
   have hC66 := hC10.go hb48 (fun b e => Or.inr e)
   have ho237 := ho28.go hb48 (fun e => hn1 e.symm)
   have ho238 := ho29.go hb48 (fun e => hn2 e.symm)
   have ho239 := ho30.go hb48 (fun e => hn4 e.symm)
   obtain rfl := Zi hv25
   refine Zo Z Z Z (ow_eqlI Z Z Z fun bb11 hbb11 => Zn (Ze ?_))
   replace h := Zc h
   rcases h with ⟨hc10, h⟩ | ⟨hc10, h⟩
   ·
    obtain rfl := hbb11.trans hc10
    refine cw_true Z ?_
    replace h := bind_some h
    obtain ⟨x20, hx20, h⟩ := h
    have lz12 := ((lz2.trans hl10).trans hl66)
    refine cw_sub (E' := [(0, (Zw g 0)), (1, (Zv a_n)), (4, (Zw g1 0)), (5, (Zw g2 0)), (6, (Zv x3)), (7, (Zw g3 0))]) ⟨Z, Z, Z, Z, Z, Z, Zt⟩ (cw_drawC (g := g) (T := 97) 12 1 [none, none, none, none, none, none, none, none, none, none, none, some 0] [#[(.slice Ax a_xs.length cx), (Zv x19.2)], #[(.slice Ax a_xs.length cx), (Zv x20.2)]] [PEq (Zv x3), PV RSpan (Add g3 (Add g2 (Add g1 M))) ({ Lo := 0, Hi := x3 } : Span), PEq (Zw g3 1), PEq (Zv x4.1.Hi), PV RSpan (Add g3 (Add g2 (Add g1 M))) ({ Lo := 0, Hi := x4.1.Hi } : Span), PEq (Zw g3 0), PEq (Zv x4.1.Lo), PEq (Zv x3), PV RSpan (Add g3 (Add g2 (Add g1 M))) ({ Lo := x4.1.Lo, Hi := x3 } : Span), PV (RSlice RSpan) (Add g3 (Add g2 (Add g1 M))) [({ Lo := 0, Hi := x3 } : Span), ({ Lo := 0, Hi := x4.1.Hi } : Span), ({ Lo := x4.1.Lo, Hi := x3 } : Span)], PEq (Zw g 0), PEq (Zv x20.1)] (by kernel_rfl) Z (by kernel_rfl) (by kernel_rfl) ho236 ⟨(PEq.monoY hm6 _), (PV.monoY hm6 _ _), (PEq.monoY hm6 _), (PEq.monoY hm6 _), (PV.monoY hm6 _ _), (PEq.monoY hm6 _), (PEq.monoY hm6 _), (PEq.monoY hm6 _), (PV.monoY hm6 _ _), (PV.monoY hm6 _ _), (PEq.monoY hm6 _), (PEq.monoY hm6 _), Zt⟩ ⟨?_, ?_, ?_, ?_, ?_, ?_, ?_, ?_, ?_, ?_, ?_, ?_, Zt⟩ ?_)
    · exact fun w69 D hS19 hd19 => Zs (E' := [(6, (Zv x3))]) ⟨Z, Zt⟩ (Zp Z (Zm Z Z Zb))
    ·
     intro w70 D hS20 hd20
     refine Zs (E' := [(40, (Zv x3))]) ⟨dpE hd20 0 Z Z, Zt⟩ (Zp Z (ow_build (v := .agg #[(Zv 0), (Zv x3)]) Z Z (by kernel_rfl) ?_))
     have hw33 : VRep RSpan w70 (Add g3 (Add g2 (Add g1 M))) ({ Lo := 0, Hi := x3 } : Span) (.agg #[(Zv 0), (Zv x3)]) := shut_Span
     exact ⟨BX.refl _ _, hw33⟩
    · exact fun w71 D hS21 hd21 => Zs (E' := [(7, (Zw g3 0))]) ⟨Z, Zt⟩ (Zp Z (Zf Z Z Tryd.underlying69 Z (Tryd.sizeOf3 _) Zb))
    ·
     intro w72 D hS22 hd22
     have ho259 := ho239.go hS22 (fun e => hn4 e.symm)
     exact Zs (E' := [(42, (Zw g3 1))]) ⟨dpE hd22 2 Z Z, Zt⟩ (Zp Z (ow_loadOwn1 Z Z Z ho259 (Tryd.isAgg3 _) Z Zb))
    ·
     intro w73 D hS23 hd23
     refine Zs (E' := [(43, (Zv x4.1.Hi))]) ⟨dpE hd23 3 Z Z, Zt⟩ (Zp Z (ow_build (v := .agg #[(Zv 0), (Zv x4.1.Hi)]) Z Z (by kernel_rfl) ?_))
     have hw34 : VRep RSpan w73 (Add g3 (Add g2 (Add g1 M))) ({ Lo := 0, Hi := x4.1.Hi } : Span) (.agg #[(Zv 0), (Zv x4.1.Hi)]) := shut_Span
     exact ⟨BX.refl _ _, hw34⟩
    · exact fun w74 D hS24 hd24 => Zs (E' := [(7, (Zw g3 0))]) ⟨Z, Zt⟩ (Zp Z (Zf Z Z Tryd.underlying69 Z (Tryd.sizeOf3 _) Zb))
    ·
     intro w75 D hS25 hd25
     have ho268 := ho239.go hS25 (fun e => hn4 e.symm)
     exact Zs (E' := [(45, (Zw g3 0))]) ⟨dpE hd25 5 Z Z, Zt⟩ (Zp Z (ow_loadOwn1 Z Z Z ho268 (Tryd.isAgg3 _) Z Zb))
    · exact fun w76 D hS26 hd26 => Zs (E' := [(6, (Zv x3))]) ⟨Z, Zt⟩ (Zp Z (Zm Z Z Zb))
    ·
     intro w77 D hS27 hd27
     refine Zs (E' := [(46, (Zv x4.1.Lo)), (47, (Zv x3))]) ⟨dpE hd27 6 Z Z, dpE hd27 7 Z Z, Zt⟩ (Zp Z (ow_build (v := .agg #[(Zv x4.1.Lo), (Zv x3)]) Z Z (by kernel_rfl) ?_))
     have hw35 : VRep RSpan w77 (Add g3 (Add g2 (Add g1 M))) ({ Lo := x4.1.Lo, Hi := x3 } : Span) (.agg #[(Zv x4.1.Lo), (Zv x3)]) := shut_Span
     exact ⟨BX.refl _ _, hw35⟩
    ·
     intro w78 D hS28 hd28
     have hC78 := hC66.go hS28 (fun b e => Or.inr e)
     have d35 : PV RSpan (Add g3 (Add g2 (Add g1 M))) ({ Lo := 0, Hi := x3 } : Span) (D 1) w78 := dpA hd28 1 Z
     have d36 : PV RSpan (Add g3 (Add g2 (Add g1 M))) ({ Lo := 0, Hi := x4.1.Hi } : Span) (D 4) w78 := dpA hd28 4 Z
     have d37 : PV RSpan (Add g3 (Add g2 (Add g1 M))) ({ Lo := x4.1.Lo, Hi := x3 } : Span) (D 8) w78 := dpA hd28 8 Z
     generalize hq5 : (D 1) = v27 at d35
     generalize hq6 : (D 4) = v28 at d36
     generalize hq7 : (D 8) = v29 at d37
     refine Zs (E' := [(41, v27), (44, v28), (48, v29)]) ⟨congrArg some hq5, congrArg some hq6, congrArg some hq7, Zt⟩ ?_
     obtain rfl := open_Span d35
     obtain rfl := open_Span d36
     obtain rfl := open_Span d37
     exact Zp Z (ow_buildSlice (R := RSpan) (xs := [({ Lo := 0, Hi := x3 } : Span), ({ Lo := 0, Hi := x4.1.Hi } : Span), ({ Lo := x4.1.Lo, Hi := x3 } : Span)]) (cs := #[(Zv ({ Lo := 0, Hi := x3 } : Span).Lo), (Zv ({ Lo := 0, Hi := x3 } : Span).Hi), (Zv ({ Lo := 0, Hi := x4.1.Hi } : Span).Lo), (Zv ({ Lo := 0, Hi := x4.1.Hi } : Span).Hi), (Zv ({ Lo := x4.1.Lo, Hi := x3 } : Span).Lo), (Zv ({ Lo := x4.1.Lo, Hi := x3 } : Span).Hi)]) (e := 69) Z Z (by kernel_rfl) Z Z ⟨_, _, Z, d35.cells, _, _, Z, d36.cells, _, _, Z, d37.cells, Z⟩ hC78 fun p9 w79 hw36 hb51 hl79 hC79 => ⟨hb51, hw36⟩)
    · exact fun w80 D hS29 hd29 => Zs (E' := [(0, (Zw g 0))]) ⟨Z, Zt⟩ (Zp Z (Zm Z Z Zb))
    ·
     intro w81 D hS30 hd30
     obtain ⟨hS30, ho284⟩ := hS30
     have ho284 : Own w81 g 97 #[(.slice Ax a_xs.length cx), (Zv x19.2)] := ho284
     have hl81 := leY hm6 hS30
     have hC81 := hC66.go hS30 (fun b e => Or.inr e)
     refine Zs (E' := [(50, (Zw g 0))]) ⟨dpE hd30 10 Z Z, Zt⟩ (Zp Z (Zk Z Z Tryd.call63 (w_spec_l20Rd_pick (hG.mono (lz12.trans hl81)) hC81.old (VRep.mono (lz12.trans hl81) hxs) ho284 hm6 hx20) fun v30 w82 hv30 => ?_))
     obtain ⟨⟨hv30, ho288⟩, hb52⟩ := hv30
     obtain rfl := Zi hv30
     exact ⟨⟨⟨hS30.trans hb52, ho288⟩, hb52⟩, Z⟩
    ·
     intro w83 D hS31 hd31
     have d48 : PV (RSlice RSpan) (Add g3 (Add g2 (Add g1 M))) [({ Lo := 0, Hi := x3 } : Span), ({ Lo := 0, Hi := x4.1.Hi } : Span), ({ Lo := x4.1.Lo, Hi := x3 } : Span)] (D 9) w83 := dpA hd31 9 Z
     obtain ⟨hS31, ho292⟩ := hS31
     have ho292 : Own w83 g 97 #[(.slice Ax a_xs.length cx), (Zv x20.2)] := ho292
     have hl83 := leY hm6 hS31
     have hC83 := hC66.go hS31 (fun b e => Or.inr e)
     have ho293 := ho237.go hS31 (fun e => hn1 e.symm)
     have ho294 := ho238.go hS31 (fun e => hn2 e.symm)
     have ho295 := ho239.go hS31 (fun e => hn4 e.symm)
     generalize hq8 : (D 9) = v31 at d48
     refine lw_sub (E' := [(49, v31), (51, (Zv x20.1)), (0, (Zw g 0)), (1, (Zv a_n)), (4, (Zw g1 0)), (5, (Zw g2 0)), (6, (Zv x3)), (7, (Zw g3 0))]) ⟨congrArg some hq8, dpE hd31 11 Z Z, Z, Z, Z, Z, Z, Z, Zt⟩ ?_
     replace h := bind_some h
     obtain ⟨x21, hx21, h⟩ := h
     refine Zo Z Z Z (Zx (R := RSpan) Z Z Z d48 Tryd.underlying59 (Tryd.sizeOf69 _) hx21 fun p10 hp10 => Zo Z Z Z (Zl (R := RSpan) Z Z hp10 (Tryd.sizeOf69 _) (Tryd.isAgg69 _) fun v32 hv32 => ?_))
     obtain rfl := open_Span hv32
     refine lw_op0 Z Z (ow_store (X := (One g)) (us := [(Zv x21.Lo), (Zv x21.Hi)]) (cs' := #[(Zv x21.Lo), (Zv x21.Hi)]) Z Z Z Z ho295 (Tryd.sizeOf69 _) Z Z Z Z hm9 (.inl hg6) Z hC83 fun w84 ho296 hb53 hl84 hC84 => ?_)
     have ho297 := ho292.go hb53 (fun e => hn4 e)
     have ho298 := ho293.go hb53 (fun e => hn5 e)
     have ho299 := ho294.go hb53 (fun e => hn6 e)
     refine Zn (Ze (cw_seq (Zr (Zo Z Z Z (Zf Z Z Tryd.underlying69 Z (Tryd.sizeOf3 _) (Zo Z Z Z (ow_loadOwn1 Z Z Z ho296 (Tryd.isAgg3 _) Z (Zo Z Z Z (Zf Z Z Tryd.underlying133 Z (Tryd.sizeOf3 _) (lw_op0 Z Z (ow_store (X := (One g)) (us := [(Zv x21.Lo)]) (cs' := #[(Zv x1.1), (Zv x21.Lo), (Zv 0), (.bool bb1)]) Z Z Z Z ho299 (Tryd.sizeOf3 _) Z Z Z Z hm8 (.inl hg4) Z hC84 fun w85 ho300 hb54 hl85 hC85 => ?_)))))))))))
     have ho301 := ho297.go hb54 (fun e => hn2 e)
     have ho302 := ho298.go hb54 (fun e => hn3 e)
     have ho303 := ho296.go hb54 (fun e => hn6 e.symm)
     refine Zn (Ze (cw_seq (Zr (Zo Z Z Z (Zf Z Z Tryd.underlying69 Z (Tryd.sizeOf3 _) (Zo Z Z Z (ow_loadOwn1 Z Z Z ho303 (Tryd.isAgg3 _) Z (Zo Z Z Z (Zf Z Z Tryd.underlying133 Z (Tryd.sizeOf3 _) (lw_op0 Z Z (ow_store (X := (One g)) (us := [(Zv x21.Hi)]) (cs' := #[(Zv x1.1), (Zv x21.Lo), (Zv x21.Hi), (.bool bb1)]) Z Z Z Z ho300 (Tryd.sizeOf3 _) Z Z Z Z hm8 (.inl hg4) Z hC85 fun w86 ho304 hb55 hl86 hC86 => ?_)))))))))))
     have ho305 := ho301.go hb55 (fun e => hn2 e)
     have ho306 := ho302.go hb55 (fun e => hn3 e)
     refine Zn (Ze (cw_seq (cw_seq (Zr (Zo Z Z Z (Zm Z Z (Zo Z Z Z (Zm Z Z ?_))))))))
     have lz15 := ((((lz12.trans hl83).trans hl84).trans hl85).trans hl86)
     replace h := bind_some h
     obtain ⟨x22, hx22, h⟩ := h
     refine Zo Z Z Z (Zk Z Z Tryd.call83 (w_spec_l20Rd_odd (hG.mono lz15) hC86.old (VRep.mono lz15 hxs) ho305 hm6 hx22) fun v33 w87 hv33 => ?_)
     obtain ⟨⟨hv33, ho308⟩, hb56⟩ := hv33
     have hl87 := Le.of_bx (Add g3 (Add g2 (Add g1 M))) hb56 (fun b e => (by rw [show b = g from e]; exact hm6))
     have hC87 := hC86.go hb56 (fun b e => Or.inr e)
     have ho309 := ho306.go hb56 (fun e => hn1 e.symm)
     have ho310 := ho304.go hb56 (fun e => hn2 e.symm)
     obtain ⟨bb12, hbb12, rfl⟩ := vbool_ex hv33
     refine Zn (Ze ?_)
     replace h := Zc h
     rcases h with ⟨hc11, h⟩ | ⟨hc11, h⟩
     ·
      obtain rfl := hbb12.trans hc11
      refine cw_true Z (cw_seq (Zr (Zo Z Z Z (Zm Z Z ?_))))
      replace h := bind_some h
      obtain ⟨x23, hx23, h⟩ := h
      refine Zo Z Z Z (Zk Z Z Tryd.call63 (w_spec_l20Rd_pick (hG.mono (lz15.trans hl87)) hC87.old (VRep.mono (lz15.trans hl87) hxs) ho308 hm6 hx23) fun v34 w88 hv34 => ?_)
      obtain ⟨⟨hv34, ho312⟩, hb57⟩ := hv34
      have hl88 := Le.of_bx (Add g3 (Add g2 (Add g1 M))) hb57 (fun b e => (by rw [show b = g from e]; exact hm6))
      have hC88 := hC87.go hb57 (fun b e => Or.inr e)
      have ho313 := ho309.go hb57 (fun e => hn1 e.symm)
      have ho314 := ho310.go hb57 (fun e => hn2 e.symm)
      obtain rfl := Zi hv34
      refine Zn (Ze (cw_block (cw_seq (Zr (Zo Z Z Z (ow_eqlI Z Z Z fun bb13 hbb13 => Zo Z Z Z (Za Z Z (Zn (Ze ?_)))))))))
      replace h := Zc h
      rcases h with ⟨hc12, h⟩ | ⟨hc12, h⟩
      ·
       obtain rfl := hbb13.trans hc12
       refine cw_true Z (Zr (Zo Z Z Z (ow_buildSlice (R := RInt) (xs := [(-1), 4]) (cs := #[(Zv (-1)), (Zv 4)]) (e := 3) Z Z (by kernel_rfl) Z Z ⟨_, _, Z, (vint _).cells, _, _, Z, (vint _).cells, Z⟩ hC88 fun p11 w89 hw37 hb58 hl89 hC89 => ?_)))
       have ho316 := ho312.no hb58
       have ho317 := ho313.no hb58
       have ho318 := ho314.no hb58
       refine Zo Z Z Z (Zm Z Z ?_)
       have lz16 := (((lz15.trans hl87).trans hl88).trans hl89)
       replace h := bind_some h
       obtain ⟨x24, hx24, h⟩ := h
       refine Zo Z Z Z (Zk Z Z Tryd.call63 (w_spec_l20Rd_pick (hG.mono lz16) hC89.old (VRep.mono lz16 hxs) ho316 hm6 hx24) fun v35 w90 hv35 => ?_)
       obtain ⟨⟨hv35, ho320⟩, hb59⟩ := hv35
       have hl90 := Le.of_bx (Add g3 (Add g2 (Add g1 M))) hb59 (fun b e => (by rw [show b = g from e]; exact hm6))
       have hC90 := hC89.go hb59 (fun b e => Or.inr e)
       have ho321 := ho317.go hb59 (fun e => hn1 e.symm)
       have ho322 := ho318.go hb59 (fun e => hn2 e.symm)
       obtain rfl := Zi hv35
       replace h := bind_some h
       obtain ⟨x25, hx25, h⟩ := h
       refine Zo Z Z Z (Zx (R := RInt) Z Z Z (VRep.mono hl90 hw37) Tryd.underlying70 (Tryd.sizeOf3 _) hx25 fun p12 hp12 => Zo Z Z Z (Zl (R := RInt) Z Z hp12 (Tryd.sizeOf3 _) (Tryd.isAgg3 _) fun v36 hv36 => ?_))
       obtain rfl := Zi hv36
       refine Zo Z Z Z (Zf Z Z Tryd.underlying133 Z (Tryd.sizeOf3 _) (lw_op0 Z Z (ow_store (X := (One g)) (us := [(Zv x25)]) (cs' := #[(Zv x25), (Zv x21.Lo), (Zv x21.Hi), (.bool bb1)]) Z Z Z Z ho322 (Tryd.sizeOf3 _) Z Z Z Z hm8 (.inl hg4) Z hC90 fun w91 ho324 hb60 hl91 hC91 => ?_)))
       have ho325 := ho320.go hb60 (fun e => hn2 e)
       have ho326 := ho321.go hb60 (fun e => hn3 e)
       refine Zn (ew_blockN (Ze (cw_seq (Zr (Zo Z Z Z (ow_loadOwnA Z Z Z ho324 (Tryd.isAgg133 _) (Tryd.sizeOf133 _) Z (lw_op0 Z Z (ow_store (X := (One g)) (us := [(Zv x25), (Zv x21.Lo), (Zv x21.Hi), (.bool bb1)]) (cs' := #[(Zv x25), (Zv x21.Lo), (Zv x21.Hi), (.bool bb1)]) Z Z Z Z ho326 (Tryd.sizeOf133 _) Z Z Z Z hm7 (.inl hg2) Z hC91 fun w92 ho328 hb61 hl92 hC92 => ?_))))))))
       have ho329 := ho325.go hb61 (fun e => hn1 e)
       refine Zn (Ze (Zy ?_))
       have hw39 : VRep RTest w92 (Add g3 (Add g2 (Add g1 M))) ({ Field := x25, Lo := x21.Lo, Hi := x21.Hi, Not := (x2.1 == 0) } : Test) (.agg #[(Zv x25), (Zv x21.Lo), (Zv x21.Hi), (.bool bb1)]) := by subst hbb1; exact shut_Test
       obtain rfl := sj h
       exact ew_ret (res1 Z (.cell Z (own_loadVarA ho328 (Tryd.isAgg133 _) (Tryd.sizeOf133 _) Z))) ⟨_, Z, ⟨(hw39.mono hC92.back), ho329⟩, hC92.bx⟩
      ·
       obtain rfl := hbb13.trans hc12
       refine Zu Z (cw_seq (Zr (Zo Z Z Z (ow_eqlI Z Z Z fun bb14 hbb14 => Zo Z Z Z (Za Z Z (Zn (Ze ?_)))))))
       replace h := Zc h
       rcases h with ⟨hc13, h⟩ | ⟨hc13, h⟩
       ·
        obtain rfl := hbb14.trans hc13
        refine cw_true Z (Zr (Zo Z Z Z (Zf Z Z Tryd.underlying133 Z (Tryd.sizeOf3 _) (Zo Z Z Z (ow_loadOwn1 Z Z Z ho314 (Tryd.isAgg3 _) Z (Zo Z Z Z (ow_add Z Z Z (Zo Z Z Z (Zf Z Z Tryd.underlying133 Z (Tryd.sizeOf3 _) (lw_op0 Z Z (ow_store (X := (One g)) (us := [(Zv (W (x21.Hi + 1)))]) (cs' := #[(Zv x1.1), (Zv (W (x21.Hi + 1))), (Zv x21.Hi), (.bool bb1)]) Z Z Z Z ho314 (Tryd.sizeOf3 _) Z Z Z Z hm8 (.inl hg4) Z hC88 fun w93 ho332 hb62 hl93 hC93 => ?_)))))))))))
        have ho333 := ho312.go hb62 (fun e => hn2 e)
        have ho334 := ho313.go hb62 (fun e => hn3 e)
        refine Zn (ew_blockN (Ze (cw_seq (Zr (Zo Z Z Z (ow_loadOwnA Z Z Z ho332 (Tryd.isAgg133 _) (Tryd.sizeOf133 _) Z (lw_op0 Z Z (ow_store (X := (One g)) (us := [(Zv x1.1), (Zv (W (x21.Hi + 1))), (Zv x21.Hi), (.bool bb1)]) (cs' := #[(Zv x1.1), (Zv (W (x21.Hi + 1))), (Zv x21.Hi), (.bool bb1)]) Z Z Z Z ho334 (Tryd.sizeOf133 _) Z Z Z Z hm7 (.inl hg2) Z hC93 fun w94 ho336 hb63 hl94 hC94 => ?_))))))))
        have ho337 := ho333.go hb63 (fun e => hn1 e)
        refine Zn (Ze (Zy ?_))
        have hw41 : VRep RTest w94 (Add g3 (Add g2 (Add g1 M))) ({ Field := x1.1, Lo := (W (x21.Hi + 1)), Hi := x21.Hi, Not := (x2.1 == 0) } : Test) (.agg #[(Zv x1.1), (Zv (W (x21.Hi + 1))), (Zv x21.Hi), (.bool bb1)]) := by subst hbb1; exact shut_Test
        obtain rfl := sj h
        exact ew_ret (res1 Z (.cell Z (own_loadVarA ho336 (Tryd.isAgg133 _) (Tryd.sizeOf133 _) Z))) ⟨_, Z, ⟨(hw41.mono hC94.back), ho337⟩, hC94.bx⟩
       ·
        obtain rfl := hbb14.trans hc13
        refine Zu Z (Zr (Zo Z Z Z (Zm Z Z (Zo Z Z Z (ow_add Z Z Z (Zo Z Z Z (Zf Z Z Tryd.underlying133 Z (Tryd.sizeOf3 _) (lw_op0 Z Z (ow_store (X := (One g)) (us := [(Zv (W (x3 + 1)))]) (cs' := #[(Zv x1.1), (Zv x21.Lo), (Zv (W (x3 + 1))), (.bool bb1)]) Z Z Z Z ho314 (Tryd.sizeOf3 _) Z Z Z Z hm8 (.inl hg4) Z hC88 fun w95 ho340 hb64 hl95 hC95 => ?_)))))))))
        have ho341 := ho312.go hb64 (fun e => hn2 e)
        have ho342 := ho313.go hb64 (fun e => hn3 e)
        refine Zn (ew_blockN (Ze (cw_seq (Zr (Zo Z Z Z (ow_loadOwnA Z Z Z ho340 (Tryd.isAgg133 _) (Tryd.sizeOf133 _) Z (lw_op0 Z Z (ow_store (X := (One g)) (us := [(Zv x1.1), (Zv x21.Lo), (Zv (W (x3 + 1))), (.bool bb1)]) (cs' := #[(Zv x1.1), (Zv x21.Lo), (Zv (W (x3 + 1))), (.bool bb1)]) Z Z Z Z ho342 (Tryd.sizeOf133 _) Z Z Z Z hm7 (.inl hg2) Z hC95 fun w96 ho344 hb65 hl96 hC96 => ?_))))))))
        have ho345 := ho341.go hb65 (fun e => hn1 e)
        refine Zn (Ze (Zy ?_))
        have hw43 : VRep RTest w96 (Add g3 (Add g2 (Add g1 M))) ({ Field := x1.1, Lo := x21.Lo, Hi := (W (x3 + 1)), Not := (x2.1 == 0) } : Test) (.agg #[(Zv x1.1), (Zv x21.Lo), (Zv (W (x3 + 1))), (.bool bb1)]) := by subst hbb1; exact shut_Test
        obtain rfl := sj h
        exact ew_ret (res1 Z (.cell Z (own_loadVarA ho344 (Tryd.isAgg133 _) (Tryd.sizeOf133 _) Z))) ⟨_, Z, ⟨(hw43.mono hC96.back), ho345⟩, hC96.bx⟩
     ·
      obtain rfl := hbb12.trans hc11
      refine Zu Z (cw_skip (Ze (cw_seq (Zr (Zo Z Z Z (ow_loadOwnA Z Z Z ho310 (Tryd.isAgg133 _) (Tryd.sizeOf133 _) Z (lw_op0 Z Z (ow_store (X := (One g)) (us := [(Zv x1.1), (Zv x21.Lo), (Zv x21.Hi), (.bool bb1)]) (cs' := #[(Zv x1.1), (Zv x21.Lo), (Zv x21.Hi), (.bool bb1)]) Z Z Z Z ho309 (Tryd.sizeOf133 _) Z Z Z Z hm7 (.inl hg2) Z hC87 fun w97 ho348 hb66 hl97 hC97 => ?_))))))))
      have ho349 := ho308.go hb66 (fun e => hn1 e)
      refine Zn (Ze (Zy ?_))
      have hw45 : VRep RTest w97 (Add g3 (Add g2 (Add g1 M))) ({ Field := x1.1, Lo := x21.Lo, Hi := x21.Hi, Not := (x2.1 == 0) } : Test) (.agg #[(Zv x1.1), (Zv x21.Lo), (Zv x21.Hi), (.bool bb1)]) := by subst hbb1; exact shut_Test
      obtain rfl := sj h
      exact ew_ret (res1 Z (.cell Z (own_loadVarA ho348 (Tryd.isAgg133 _) (Tryd.sizeOf133 _) Z))) ⟨_, Z, ⟨(hw45.mono hC97.back), ho349⟩, hC97.bx⟩
   ·
    obtain rfl := hbb11.trans hc10
    refine Zu Z (cw_skip (Ze (cw_seq (Zr (Zo Z Z Z (Zf Z Z Tryd.underlying69 Z (Tryd.sizeOf3 _) (Zo Z Z Z (ow_loadOwn1 Z Z Z ho239 (Tryd.isAgg3 _) Z (Zo Z Z Z (Zf Z Z Tryd.underlying133 Z (Tryd.sizeOf3 _) (lw_op0 Z Z (ow_store (X := (One g)) (us := [(Zv x4.1.Lo)]) (cs' := #[(Zv x1.1), (Zv x4.1.Lo), (Zv 0), (.bool bb1)]) Z Z Z Z ho238 (Tryd.sizeOf3 _) Z Z Z Z hm8 (.inl hg4) Z hC66 fun w98 ho352 hb67 hl98 hC98 => ?_))))))))))))
    have ho353 := ho236.go hb67 (fun e => hn2 e)
    have ho354 := ho237.go hb67 (fun e => hn3 e)
    have ho355 := ho239.go hb67 (fun e => hn6 e.symm)
    refine Zn (Ze (cw_seq (Zr (Zo Z Z Z (Zf Z Z Tryd.underlying69 Z (Tryd.sizeOf3 _) (Zo Z Z Z (ow_loadOwn1 Z Z Z ho355 (Tryd.isAgg3 _) Z (Zo Z Z Z (Zf Z Z Tryd.underlying133 Z (Tryd.sizeOf3 _) (lw_op0 Z Z (ow_store (X := (One g)) (us := [(Zv x4.1.Hi)]) (cs' := #[(Zv x1.1), (Zv x4.1.Lo), (Zv x4.1.Hi), (.bool bb1)]) Z Z Z Z ho352 (Tryd.sizeOf3 _) Z Z Z Z hm8 (.inl hg4) Z hC98 fun w99 ho356 hb68 hl99 hC99 => ?_)))))))))))
    have ho357 := ho353.go hb68 (fun e => hn2 e)
    have ho358 := ho354.go hb68 (fun e => hn3 e)
    refine Zn (Ze (cw_seq (cw_seq (Zr (Zo Z Z Z (Zm Z Z (Zo Z Z Z (Zm Z Z ?_))))))))
    have lz17 := ((((lz2.trans hl10).trans hl66).trans hl98).trans hl99)
    replace h := bind_some h
    obtain ⟨x26, hx26, h⟩ := h
    refine Zo Z Z Z (Zk Z Z Tryd.call83 (w_spec_l20Rd_odd (hG.mono lz17) hC99.old (VRep.mono lz17 hxs) ho357 hm6 hx26) fun v37 w100 hv37 => ?_)
    obtain ⟨⟨hv37, ho360⟩, hb69⟩ := hv37
    have hl100 := Le.of_bx (Add g3 (Add g2 (Add g1 M))) hb69 (fun b e => (by rw [show b = g from e]; exact hm6))
    have hC100 := hC99.go hb69 (fun b e => Or.inr e)
    have ho361 := ho358.go hb69 (fun e => hn1 e.symm)
    have ho362 := ho356.go hb69 (fun e => hn2 e.symm)
    obtain ⟨bb15, hbb15, rfl⟩ := vbool_ex hv37
    refine Zn (Ze ?_)
    replace h := Zc h
    rcases h with ⟨hc14, h⟩ | ⟨hc14, h⟩
    ·
     obtain rfl := hbb15.trans hc14
     refine cw_true Z (cw_seq (Zr (Zo Z Z Z (Zm Z Z ?_))))
     replace h := bind_some h
     obtain ⟨x27, hx27, h⟩ := h
     refine Zo Z Z Z (Zk Z Z Tryd.call63 (w_spec_l20Rd_pick (hG.mono (lz17.trans hl100)) hC100.old (VRep.mono (lz17.trans hl100) hxs) ho360 hm6 hx27) fun v38 w101 hv38 => ?_)
     obtain ⟨⟨hv38, ho364⟩, hb70⟩ := hv38
     have hl101 := Le.of_bx (Add g3 (Add g2 (Add g1 M))) hb70 (fun b e => (by rw [show b = g from e]; exact hm6))
     have hC101 := hC100.go hb70 (fun b e => Or.inr e)
     have ho365 := ho361.go hb70 (fun e => hn1 e.symm)
     have ho366 := ho362.go hb70 (fun e => hn2 e.symm)
     obtain rfl := Zi hv38
     refine Zn (Ze (cw_block (cw_seq (Zr (Zo Z Z Z (ow_eqlI Z Z Z fun bb16 hbb16 => Zo Z Z Z (Za Z Z (Zn (Ze ?_)))))))))
     replace h := Zc h
     rcases h with ⟨hc15, h⟩ | ⟨hc15, h⟩
     ·
      obtain rfl := hbb16.trans hc15
      refine cw_true Z (Zr (Zo Z Z Z (ow_buildSlice (R := RInt) (xs := [(-1), 4]) (cs := #[(Zv (-1)), (Zv 4)]) (e := 3) Z Z (by kernel_rfl) Z Z ⟨_, _, Z, (vint _).cells, _, _, Z, (vint _).cells, Z⟩ hC101 fun p13 w102 hw46 hb71 hl102 hC102 => ?_)))
      have ho368 := ho364.no hb71
      have ho369 := ho365.no hb71
      have ho370 := ho366.no hb71
      refine Zo Z Z Z (Zm Z Z ?_)
      have lz18 := (((lz17.trans hl100).trans hl101).trans hl102)
      replace h := bind_some h
      obtain ⟨x28, hx28, h⟩ := h
      refine Zo Z Z Z (Zk Z Z Tryd.call63 (w_spec_l20Rd_pick (hG.mono lz18) hC102.old (VRep.mono lz18 hxs) ho368 hm6 hx28) fun v39 w103 hv39 => ?_)
      obtain ⟨⟨hv39, ho372⟩, hb72⟩ := hv39
      have hl103 := Le.of_bx (Add g3 (Add g2 (Add g1 M))) hb72 (fun b e => (by rw [show b = g from e]; exact hm6))
      have hC103 := hC102.go hb72 (fun b e => Or.inr e)
      have ho373 := ho369.go hb72 (fun e => hn1 e.symm)
      have ho374 := ho370.go hb72 (fun e => hn2 e.symm)
      obtain rfl := Zi hv39
      replace h := bind_some h
      obtain ⟨x29, hx29, h⟩ := h
      refine Zo Z Z Z (Zx (R := RInt) Z Z Z (VRep.mono hl103 hw46) Tryd.underlying70 (Tryd.sizeOf3 _) hx29 fun p14 hp14 => Zo Z Z Z (Zl (R := RInt) Z Z hp14 (Tryd.sizeOf3 _) (Tryd.isAgg3 _) fun v40 hv40 => ?_))
      obtain rfl := Zi hv40
      refine Zo Z Z Z (Zf Z Z Tryd.underlying133 Z (Tryd.sizeOf3 _) (lw_op0 Z Z (ow_store (X := (One g)) (us := [(Zv x29)]) (cs' := #[(Zv x29), (Zv x4.1.Lo), (Zv x4.1.Hi), (.bool bb1)]) Z Z Z Z ho374 (Tryd.sizeOf3 _) Z Z Z Z hm8 (.inl hg4) Z hC103 fun w104 ho376 hb73 hl104 hC104 => ?_)))
      have ho377 := ho372.go hb73 (fun e => hn2 e)
      have ho378 := ho373.go hb73 (fun e => hn3 e)
      refine Zn (ew_blockN (Ze (cw_seq (Zr (Zo Z Z Z (ow_loadOwnA Z Z Z ho376 (Tryd.isAgg133 _) (Tryd.sizeOf133 _) Z (lw_op0 Z Z (ow_store (X := (One g)) (us := [(Zv x29), (Zv x4.1.Lo), (Zv x4.1.Hi), (.bool bb1)]) (cs' := #[(Zv x29), (Zv x4.1.Lo), (Zv x4.1.Hi), (.bool bb1)]) Z Z Z Z ho378 (Tryd.sizeOf133 _) Z Z Z Z hm7 (.inl hg2) Z hC104 fun w105 ho380 hb74 hl105 hC105 => ?_))))))))
      have ho381 := ho377.go hb74 (fun e => hn1 e)
      refine Zn (Ze (Zy ?_))
      have hw48 : VRep RTest w105 (Add g3 (Add g2 (Add g1 M))) ({ Field := x29, Lo := x4.1.Lo, Hi := x4.1.Hi, Not := (x2.1 == 0) } : Test) (.agg #[(Zv x29), (Zv x4.1.Lo), (Zv x4.1.Hi), (.bool bb1)]) := by subst hbb1; exact shut_Test
      obtain rfl := sj h
      exact ew_ret (res1 Z (.cell Z (own_loadVarA ho380 (Tryd.isAgg133 _) (Tryd.sizeOf133 _) Z))) ⟨_, Z, ⟨(hw48.mono hC105.back), ho381⟩, hC105.bx⟩
     ·
      obtain rfl := hbb16.trans hc15
      refine Zu Z (cw_seq (Zr (Zo Z Z Z (ow_eqlI Z Z Z fun bb17 hbb17 => Zo Z Z Z (Za Z Z (Zn (Ze ?_)))))))
      replace h := Zc h
      rcases h with ⟨hc16, h⟩ | ⟨hc16, h⟩
      ·
       obtain rfl := hbb17.trans hc16
       refine cw_true Z (Zr (Zo Z Z Z (Zf Z Z Tryd.underlying133 Z (Tryd.sizeOf3 _) (Zo Z Z Z (ow_loadOwn1 Z Z Z ho366 (Tryd.isAgg3 _) Z (Zo Z Z Z (ow_add Z Z Z (Zo Z Z Z (Zf Z Z Tryd.underlying133 Z (Tryd.sizeOf3 _) (lw_op0 Z Z (ow_store (X := (One g)) (us := [(Zv (W (x4.1.Hi + 1)))]) (cs' := #[(Zv x1.1), (Zv (W (x4.1.Hi + 1))), (Zv x4.1.Hi), (.bool bb1)]) Z Z Z Z ho366 (Tryd.sizeOf3 _) Z Z Z Z hm8 (.inl hg4) Z hC101 fun w106 ho384 hb75 hl106 hC106 => ?_)))))))))))
       have ho385 := ho364.go hb75 (fun e => hn2 e)
       have ho386 := ho365.go hb75 (fun e => hn3 e)
       refine Zn (ew_blockN (Ze (cw_seq (Zr (Zo Z Z Z (ow_loadOwnA Z Z Z ho384 (Tryd.isAgg133 _) (Tryd.sizeOf133 _) Z (lw_op0 Z Z (ow_store (X := (One g)) (us := [(Zv x1.1), (Zv (W (x4.1.Hi + 1))), (Zv x4.1.Hi), (.bool bb1)]) (cs' := #[(Zv x1.1), (Zv (W (x4.1.Hi + 1))), (Zv x4.1.Hi), (.bool bb1)]) Z Z Z Z ho386 (Tryd.sizeOf133 _) Z Z Z Z hm7 (.inl hg2) Z hC106 fun w107 ho388 hb76 hl107 hC107 => ?_))))))))
       have ho389 := ho385.go hb76 (fun e => hn1 e)
       refine Zn (Ze (Zy ?_))
       have hw50 : VRep RTest w107 (Add g3 (Add g2 (Add g1 M))) ({ Field := x1.1, Lo := (W (x4.1.Hi + 1)), Hi := x4.1.Hi, Not := (x2.1 == 0) } : Test) (.agg #[(Zv x1.1), (Zv (W (x4.1.Hi + 1))), (Zv x4.1.Hi), (.bool bb1)]) := by subst hbb1; exact shut_Test
       obtain rfl := sj h
       exact ew_ret (res1 Z (.cell Z (own_loadVarA ho388 (Tryd.isAgg133 _) (Tryd.sizeOf133 _) Z))) ⟨_, Z, ⟨(hw50.mono hC107.back), ho389⟩, hC107.bx⟩
      ·
       obtain rfl := hbb17.trans hc16
       refine Zu Z (Zr (Zo Z Z Z (Zm Z Z (Zo Z Z Z (ow_add Z Z Z (Zo Z Z Z (Zf Z Z Tryd.underlying133 Z (Tryd.sizeOf3 _) (lw_op0 Z Z (ow_store (X := (One g)) (us := [(Zv (W (x3 + 1)))]) (cs' := #[(Zv x1.1), (Zv x4.1.Lo), (Zv (W (x3 + 1))), (.bool bb1)]) Z Z Z Z ho366 (Tryd.sizeOf3 _) Z Z Z Z hm8 (.inl hg4) Z hC101 fun w108 ho392 hb77 hl108 hC108 => ?_)))))))))
       have ho393 := ho364.go hb77 (fun e => hn2 e)
       have ho394 := ho365.go hb77 (fun e => hn3 e)
       refine Zn (ew_blockN (Ze (cw_seq (Zr (Zo Z Z Z (ow_loadOwnA Z Z Z ho392 (Tryd.isAgg133 _) (Tryd.sizeOf133 _) Z (lw_op0 Z Z (ow_store (X := (One g)) (us := [(Zv x1.1), (Zv x4.1.Lo), (Zv (W (x3 + 1))), (.bool bb1)]) (cs' := #[(Zv x1.1), (Zv x4.1.Lo), (Zv (W (x3 + 1))), (.bool bb1)]) Z Z Z Z ho394 (Tryd.sizeOf133 _) Z Z Z Z hm7 (.inl hg2) Z hC108 fun w109 ho396 hb78 hl109 hC109 => ?_))))))))
       have ho397 := ho393.go hb78 (fun e => hn1 e)
       refine Zn (Ze (Zy ?_))
       have hw52 : VRep RTest w109 (Add g3 (Add g2 (Add g1 M))) ({ Field := x1.1, Lo := x4.1.Lo, Hi := (W (x3 + 1)), Not := (x2.1 == 0) } : Test) (.agg #[(Zv x1.1), (Zv x4.1.Lo), (Zv (W (x3 + 1))), (.bool bb1)]) := by subst hbb1; exact shut_Test
       obtain rfl := sj h
       exact ew_ret (res1 Z (.cell Z (own_loadVarA ho396 (Tryd.isAgg133 _) (Tryd.sizeOf133 _) Z))) ⟨_, Z, ⟨(hw52.mono hC109.back), ho397⟩, hC109.bx⟩
    ·
     obtain rfl := hbb15.trans hc14
     refine Zu Z (cw_skip (Ze (cw_seq (Zr (Zo Z Z Z (ow_loadOwnA Z Z Z ho362 (Tryd.isAgg133 _) (Tryd.sizeOf133 _) Z (lw_op0 Z Z (ow_store (X := (One g)) (us := [(Zv x1.1), (Zv x4.1.Lo), (Zv x4.1.Hi), (.bool bb1)]) (cs' := #[(Zv x1.1), (Zv x4.1.Lo), (Zv x4.1.Hi), (.bool bb1)]) Z Z Z Z ho361 (Tryd.sizeOf133 _) Z Z Z Z hm7 (.inl hg2) Z hC100 fun w110 ho400 hb79 hl110 hC110 => ?_))))))))
     have ho401 := ho360.go hb79 (fun e => hn1 e)
     refine Zn (Ze (Zy ?_))
     have hw54 : VRep RTest w110 (Add g3 (Add g2 (Add g1 M))) ({ Field := x1.1, Lo := x4.1.Lo, Hi := x4.1.Hi, Not := (x2.1 == 0) } : Test) (.agg #[(Zv x1.1), (Zv x4.1.Lo), (Zv x4.1.Hi), (.bool bb1)]) := by subst hbb1; exact shut_Test
     obtain rfl := sj h
     exact ew_ret (res1 Z (.cell Z (own_loadVarA ho400 (Tryd.isAgg133 _) (Tryd.sizeOf133 _) Z))) ⟨_, Z, ⟨(hw54.mono hC110.back), ho401⟩, hC110.bx⟩
 ·
  obtain rfl := hbb2.trans hc1
  refine lw_off Z Z Z Z Z Z (lw_off Z Z Z Z Z Z (lw_off Z Z Z Z Z Z (Zo Z Z Z (ow_pickF Z Z Z (Zn (Ze (Zu Z (cw_skip (Ze (cw_seq (cw_seq (Zr (Zo Z Z Z (Zm Z Z ?_))))))))))))))
  have lz19 := ((((lz1.trans hl6).trans hl7).trans hl8).trans hl9)
  replace h := bind_some h
  obtain ⟨x30, hx30, h⟩ := h
  refine Zo Z Z Z (Zk Z Z Tryd.call63 (w_spec_l20Rd_pick (hG.mono lz19) hC9.old (VRep.mono lz19 hxs) ho24 hm6 hx30) fun v41 w111 hv41 => ?_)
  obtain ⟨⟨hv41, ho404⟩, hb80⟩ := hv41
  have hl111 := Le.of_bx (Add g3 (Add g2 (Add g1 M))) hb80 (fun b e => (by rw [show b = g from e]; exact hm6))
  have hC111 := hC9.go hb80 (fun b e => Or.inr e)
  have ho405 := ho25.go hb80 (fun e => hn1 e.symm)
  have ho406 := ho26.go hb80 (fun e => hn2 e.symm)
  have ho407 := ho23.go hb80 (fun e => hn4 e.symm)
  obtain rfl := Zi hv41
  refine Zo Z Z Z (ow_eqlI Z Z Z fun bb18 hbb18 => Zn (Ze ?_))
  replace h := Zc h
  rcases h with ⟨hc17, h⟩ | ⟨hc17, h⟩
  ·
   obtain rfl := hbb18.trans hc17
   refine cw_true Z ?_
   replace h := bind_some h
   obtain ⟨x31, hx31, h⟩ := h
   have lz20 := (lz19.trans hl111)
   refine cw_sub (E' := [(0, (Zw g 0)), (1, (Zv a_n)), (4, (Zw g1 0)), (5, (Zw g2 0)), (6, (Zv x3)), (7, (Zw g3 0))]) ⟨Z, Z, Z, Z, Z, Z, Zt⟩ (cw_drawC (g := g) (T := 97) 12 1 [none, none, none, none, none, none, none, none, none, none, none, some 0] [#[(.slice Ax a_xs.length cx), (Zv x30.2)], #[(.slice Ax a_xs.length cx), (Zv x31.2)]] [PEq (Zv x3), PV RSpan (Add g3 (Add g2 (Add g1 M))) ({ Lo := 0, Hi := x3 } : Span), PEq (Zw g3 1), PEq (Zv x4.1.Hi), PV RSpan (Add g3 (Add g2 (Add g1 M))) ({ Lo := 0, Hi := x4.1.Hi } : Span), PEq (Zw g3 0), PEq (Zv x4.1.Lo), PEq (Zv x3), PV RSpan (Add g3 (Add g2 (Add g1 M))) ({ Lo := x4.1.Lo, Hi := x3 } : Span), PV (RSlice RSpan) (Add g3 (Add g2 (Add g1 M))) [({ Lo := 0, Hi := x3 } : Span), ({ Lo := 0, Hi := x4.1.Hi } : Span), ({ Lo := x4.1.Lo, Hi := x3 } : Span)], PEq (Zw g 0), PEq (Zv x31.1)] (by kernel_rfl) Z (by kernel_rfl) (by kernel_rfl) ho404 ⟨(PEq.monoY hm6 _), (PV.monoY hm6 _ _), (PEq.monoY hm6 _), (PEq.monoY hm6 _), (PV.monoY hm6 _ _), (PEq.monoY hm6 _), (PEq.monoY hm6 _), (PEq.monoY hm6 _), (PV.monoY hm6 _ _), (PV.monoY hm6 _ _), (PEq.monoY hm6 _), (PEq.monoY hm6 _), Zt⟩ ⟨?_, ?_, ?_, ?_, ?_, ?_, ?_, ?_, ?_, ?_, ?_, ?_, Zt⟩ ?_)
   · exact fun w114 D hS32 hd32 => Zs (E' := [(6, (Zv x3))]) ⟨Z, Zt⟩ (Zp Z (Zm Z Z Zb))
   ·
    intro w115 D hS33 hd33
    refine Zs (E' := [(40, (Zv x3))]) ⟨dpE hd33 0 Z Z, Zt⟩ (Zp Z (ow_build (v := .agg #[(Zv 0), (Zv x3)]) Z Z (by kernel_rfl) ?_))
    have hw59 : VRep RSpan w115 (Add g3 (Add g2 (Add g1 M))) ({ Lo := 0, Hi := x3 } : Span) (.agg #[(Zv 0), (Zv x3)]) := shut_Span
    exact ⟨BX.refl _ _, hw59⟩
   · exact fun w116 D hS34 hd34 => Zs (E' := [(7, (Zw g3 0))]) ⟨Z, Zt⟩ (Zp Z (Zf Z Z Tryd.underlying69 Z (Tryd.sizeOf3 _) Zb))
   ·
    intro w117 D hS35 hd35
    have ho427 := ho407.go hS35 (fun e => hn4 e.symm)
    exact Zs (E' := [(42, (Zw g3 1))]) ⟨dpE hd35 2 Z Z, Zt⟩ (Zp Z (ow_loadOwn1 Z Z Z ho427 (Tryd.isAgg3 _) Z Zb))
   ·
    intro w118 D hS36 hd36
    refine Zs (E' := [(43, (Zv x4.1.Hi))]) ⟨dpE hd36 3 Z Z, Zt⟩ (Zp Z (ow_build (v := .agg #[(Zv 0), (Zv x4.1.Hi)]) Z Z (by kernel_rfl) ?_))
    have hw60 : VRep RSpan w118 (Add g3 (Add g2 (Add g1 M))) ({ Lo := 0, Hi := x4.1.Hi } : Span) (.agg #[(Zv 0), (Zv x4.1.Hi)]) := shut_Span
    exact ⟨BX.refl _ _, hw60⟩
   · exact fun w119 D hS37 hd37 => Zs (E' := [(7, (Zw g3 0))]) ⟨Z, Zt⟩ (Zp Z (Zf Z Z Tryd.underlying69 Z (Tryd.sizeOf3 _) Zb))
   ·
    intro w120 D hS38 hd38
    have ho436 := ho407.go hS38 (fun e => hn4 e.symm)
    exact Zs (E' := [(45, (Zw g3 0))]) ⟨dpE hd38 5 Z Z, Zt⟩ (Zp Z (ow_loadOwn1 Z Z Z ho436 (Tryd.isAgg3 _) Z Zb))
   · exact fun w121 D hS39 hd39 => Zs (E' := [(6, (Zv x3))]) ⟨Z, Zt⟩ (Zp Z (Zm Z Z Zb))
   ·
    intro w122 D hS40 hd40
    refine Zs (E' := [(46, (Zv x4.1.Lo)), (47, (Zv x3))]) ⟨dpE hd40 6 Z Z, dpE hd40 7 Z Z, Zt⟩ (Zp Z (ow_build (v := .agg #[(Zv x4.1.Lo), (Zv x3)]) Z Z (by kernel_rfl) ?_))
    have hw61 : VRep RSpan w122 (Add g3 (Add g2 (Add g1 M))) ({ Lo := x4.1.Lo, Hi := x3 } : Span) (.agg #[(Zv x4.1.Lo), (Zv x3)]) := shut_Span
    exact ⟨BX.refl _ _, hw61⟩
   ·
    intro w123 D hS41 hd41
    have hC123 := hC111.go hS41 (fun b e => Or.inr e)
    have d57 : PV RSpan (Add g3 (Add g2 (Add g1 M))) ({ Lo := 0, Hi := x3 } : Span) (D 1) w123 := dpA hd41 1 Z
    have d58 : PV RSpan (Add g3 (Add g2 (Add g1 M))) ({ Lo := 0, Hi := x4.1.Hi } : Span) (D 4) w123 := dpA hd41 4 Z
    have d59 : PV RSpan (Add g3 (Add g2 (Add g1 M))) ({ Lo := x4.1.Lo, Hi := x3 } : Span) (D 8) w123 := dpA hd41 8 Z
    generalize hq9 : (D 1) = v43 at d57
    generalize hq10 : (D 4) = v44 at d58
    generalize hq11 : (D 8) = v45 at d59
    refine Zs (E' := [(41, v43), (44, v44), (48, v45)]) ⟨congrArg some hq9, congrArg some hq10, congrArg some hq11, Zt⟩ ?_
    obtain rfl := open_Span d57
    obtain rfl := open_Span d58
    obtain rfl := open_Span d59
    exact Zp Z (ow_buildSlice (R := RSpan) (xs := [({ Lo := 0, Hi := x3 } : Span), ({ Lo := 0, Hi := x4.1.Hi } : Span), ({ Lo := x4.1.Lo, Hi := x3 } : Span)]) (cs := #[(Zv ({ Lo := 0, Hi := x3 } : Span).Lo), (Zv ({ Lo := 0, Hi := x3 } : Span).Hi), (Zv ({ Lo := 0, Hi := x4.1.Hi } : Span).Lo), (Zv ({ Lo := 0, Hi := x4.1.Hi } : Span).Hi), (Zv ({ Lo := x4.1.Lo, Hi := x3 } : Span).Lo), (Zv ({ Lo := x4.1.Lo, Hi := x3 } : Span).Hi)]) (e := 69) Z Z (by kernel_rfl) Z Z ⟨_, _, Z, d57.cells, _, _, Z, d58.cells, _, _, Z, d59.cells, Z⟩ hC123 fun p16 w124 hw62 hb83 hl124 hC124 => ⟨hb83, hw62⟩)
   · exact fun w125 D hS42 hd42 => Zs (E' := [(0, (Zw g 0))]) ⟨Z, Zt⟩ (Zp Z (Zm Z Z Zb))
   ·
    intro w126 D hS43 hd43
    obtain ⟨hS43, ho452⟩ := hS43
    have ho452 : Own w126 g 97 #[(.slice Ax a_xs.length cx), (Zv x30.2)] := ho452
    have hl126 := leY hm6 hS43
    have hC126 := hC111.go hS43 (fun b e => Or.inr e)
    refine Zs (E' := [(50, (Zw g 0))]) ⟨dpE hd43 10 Z Z, Zt⟩ (Zp Z (Zk Z Z Tryd.call63 (w_spec_l20Rd_pick (hG.mono (lz20.trans hl126)) hC126.old (VRep.mono (lz20.trans hl126) hxs) ho452 hm6 hx31) fun v46 w127 hv46 => ?_))
    obtain ⟨⟨hv46, ho456⟩, hb84⟩ := hv46
    obtain rfl := Zi hv46
    exact ⟨⟨⟨hS43.trans hb84, ho456⟩, hb84⟩, Z⟩
   ·
    intro w128 D hS44 hd44
    have d70 : PV (RSlice RSpan) (Add g3 (Add g2 (Add g1 M))) [({ Lo := 0, Hi := x3 } : Span), ({ Lo := 0, Hi := x4.1.Hi } : Span), ({ Lo := x4.1.Lo, Hi := x3 } : Span)] (D 9) w128 := dpA hd44 9 Z
    obtain ⟨hS44, ho460⟩ := hS44
    have ho460 : Own w128 g 97 #[(.slice Ax a_xs.length cx), (Zv x31.2)] := ho460
    have hl128 := leY hm6 hS44
    have hC128 := hC111.go hS44 (fun b e => Or.inr e)
    have ho461 := ho405.go hS44 (fun e => hn1 e.symm)
    have ho462 := ho406.go hS44 (fun e => hn2 e.symm)
    have ho463 := ho407.go hS44 (fun e => hn4 e.symm)
    generalize hq12 : (D 9) = v47 at d70
    refine lw_sub (E' := [(49, v47), (51, (Zv x31.1)), (0, (Zw g 0)), (1, (Zv a_n)), (4, (Zw g1 0)), (5, (Zw g2 0)), (6, (Zv x3)), (7, (Zw g3 0))]) ⟨congrArg some hq12, dpE hd44 11 Z Z, Z, Z, Z, Z, Z, Z, Zt⟩ ?_
    replace h := bind_some h
    obtain ⟨x32, hx32, h⟩ := h
    refine Zo Z Z Z (Zx (R := RSpan) Z Z Z d70 Tryd.underlying59 (Tryd.sizeOf69 _) hx32 fun p17 hp17 => Zo Z Z Z (Zl (R := RSpan) Z Z hp17 (Tryd.sizeOf69 _) (Tryd.isAgg69 _) fun v48 hv48 => ?_))
    obtain rfl := open_Span hv48
    refine lw_op0 Z Z (ow_store (X := (One g)) (us := [(Zv x32.Lo), (Zv x32.Hi)]) (cs' := #[(Zv x32.Lo), (Zv x32.Hi)]) Z Z Z Z ho463 (Tryd.sizeOf69 _) Z Z Z Z hm9 (.inl hg6) Z hC128 fun w129 ho464 hb85 hl129 hC129 => ?_)
    have ho465 := ho460.go hb85 (fun e => hn4 e)
    have ho466 := ho461.go hb85 (fun e => hn5 e)
    have ho467 := ho462.go hb85 (fun e => hn6 e)
    refine Zn (Ze (cw_seq (Zr (Zo Z Z Z (Zf Z Z Tryd.underlying69 Z (Tryd.sizeOf3 _) (Zo Z Z Z (ow_loadOwn1 Z Z Z ho464 (Tryd.isAgg3 _) Z (Zo Z Z Z (Zf Z Z Tryd.underlying133 Z (Tryd.sizeOf3 _) (lw_op0 Z Z (ow_store (X := (One g)) (us := [(Zv x32.Lo)]) (cs' := #[(Zv x1.1), (Zv x32.Lo), (Zv 0), (.bool bb1)]) Z Z Z Z ho467 (Tryd.sizeOf3 _) Z Z Z Z hm8 (.inl hg4) Z hC129 fun w130 ho468 hb86 hl130 hC130 => ?_)))))))))))
    have ho469 := ho465.go hb86 (fun e => hn2 e)
    have ho470 := ho466.go hb86 (fun e => hn3 e)
    have ho471 := ho464.go hb86 (fun e => hn6 e.symm)
    refine Zn (Ze (cw_seq (Zr (Zo Z Z Z (Zf Z Z Tryd.underlying69 Z (Tryd.sizeOf3 _) (Zo Z Z Z (ow_loadOwn1 Z Z Z ho471 (Tryd.isAgg3 _) Z (Zo Z Z Z (Zf Z Z Tryd.underlying133 Z (Tryd.sizeOf3 _) (lw_op0 Z Z (ow_store (X := (One g)) (us := [(Zv x32.Hi)]) (cs' := #[(Zv x1.1), (Zv x32.Lo), (Zv x32.Hi), (.bool bb1)]) Z Z Z Z ho468 (Tryd.sizeOf3 _) Z Z Z Z hm8 (.inl hg4) Z hC130 fun w131 ho472 hb87 hl131 hC131 => ?_)))))))))))
    have ho473 := ho469.go hb87 (fun e => hn2 e)
    have ho474 := ho470.go hb87 (fun e => hn3 e)
    refine Zn (Ze (cw_seq (cw_seq (Zr (Zo Z Z Z (Zm Z Z (Zo Z Z Z (Zm Z Z ?_))))))))
    have lz23 := ((((lz20.trans hl128).trans hl129).trans hl130).trans hl131)
    replace h := bind_some h
    obtain ⟨x33, hx33, h⟩ := h
    refine Zo Z Z Z (Zk Z Z Tryd.call83 (w_spec_l20Rd_odd (hG.mono lz23) hC131.old (VRep.mono lz23 hxs) ho473 hm6 hx33) fun v49 w132 hv49 => ?_)
    obtain ⟨⟨hv49, ho476⟩, hb88⟩ := hv49
    have hl132 := Le.of_bx (Add g3 (Add g2 (Add g1 M))) hb88 (fun b e => (by rw [show b = g from e]; exact hm6))
    have hC132 := hC131.go hb88 (fun b e => Or.inr e)
    have ho477 := ho474.go hb88 (fun e => hn1 e.symm)
    have ho478 := ho472.go hb88 (fun e => hn2 e.symm)
    obtain ⟨bb19, hbb19, rfl⟩ := vbool_ex hv49
    refine Zn (Ze ?_)
    replace h := Zc h
    rcases h with ⟨hc18, h⟩ | ⟨hc18, h⟩
    ·
     obtain rfl := hbb19.trans hc18
     refine cw_true Z (cw_seq (Zr (Zo Z Z Z (Zm Z Z ?_))))
     replace h := bind_some h
     obtain ⟨x34, hx34, h⟩ := h
     refine Zo Z Z Z (Zk Z Z Tryd.call63 (w_spec_l20Rd_pick (hG.mono (lz23.trans hl132)) hC132.old (VRep.mono (lz23.trans hl132) hxs) ho476 hm6 hx34) fun v50 w133 hv50 => ?_)
     obtain ⟨⟨hv50, ho480⟩, hb89⟩ := hv50
     have hl133 := Le.of_bx (Add g3 (Add g2 (Add g1 M))) hb89 (fun b e => (by rw [show b = g from e]; exact hm6))
     have hC133 := hC132.go hb89 (fun b e => Or.inr e)
     have ho481 := ho477.go hb89 (fun e => hn1 e.symm)
     have ho482 := ho478.go hb89 (fun e => hn2 e.symm)
     obtain rfl := Zi hv50
     refine Zn (Ze (cw_block (cw_seq (Zr (Zo Z Z Z (ow_eqlI Z Z Z fun bb20 hbb20 => Zo Z Z Z (Za Z Z (Zn (Ze ?_)))))))))
     replace h := Zc h
     rcases h with ⟨hc19, h⟩ | ⟨hc19, h⟩
     ·
      obtain rfl := hbb20.trans hc19
      refine cw_true Z (Zr (Zo Z Z Z (ow_buildSlice (R := RInt) (xs := [(-1), 4]) (cs := #[(Zv (-1)), (Zv 4)]) (e := 3) Z Z (by kernel_rfl) Z Z ⟨_, _, Z, (vint _).cells, _, _, Z, (vint _).cells, Z⟩ hC133 fun p18 w134 hw63 hb90 hl134 hC134 => ?_)))
      have ho484 := ho480.no hb90
      have ho485 := ho481.no hb90
      have ho486 := ho482.no hb90
      refine Zo Z Z Z (Zm Z Z ?_)
      have lz24 := (((lz23.trans hl132).trans hl133).trans hl134)
      replace h := bind_some h
      obtain ⟨x35, hx35, h⟩ := h
      refine Zo Z Z Z (Zk Z Z Tryd.call63 (w_spec_l20Rd_pick (hG.mono lz24) hC134.old (VRep.mono lz24 hxs) ho484 hm6 hx35) fun v51 w135 hv51 => ?_)
      obtain ⟨⟨hv51, ho488⟩, hb91⟩ := hv51
      have hl135 := Le.of_bx (Add g3 (Add g2 (Add g1 M))) hb91 (fun b e => (by rw [show b = g from e]; exact hm6))
      have hC135 := hC134.go hb91 (fun b e => Or.inr e)
      have ho489 := ho485.go hb91 (fun e => hn1 e.symm)
      have ho490 := ho486.go hb91 (fun e => hn2 e.symm)
      obtain rfl := Zi hv51
      replace h := bind_some h
      obtain ⟨x36, hx36, h⟩ := h
      refine Zo Z Z Z (Zx (R := RInt) Z Z Z (VRep.mono hl135 hw63) Tryd.underlying70 (Tryd.sizeOf3 _) hx36 fun p19 hp19 => Zo Z Z Z (Zl (R := RInt) Z Z hp19 (Tryd.sizeOf3 _) (Tryd.isAgg3 _) fun v52 hv52 => ?_))
      obtain rfl := Zi hv52
      refine Zo Z Z Z (Zf Z Z Tryd.underlying133 Z (Tryd.sizeOf3 _) (lw_op0 Z Z (ow_store (X := (One g)) (us := [(Zv x36)]) (cs' := #[(Zv x36), (Zv x32.Lo), (Zv x32.Hi), (.bool bb1)]) Z Z Z Z ho490 (Tryd.sizeOf3 _) Z Z Z Z hm8 (.inl hg4) Z hC135 fun w136 ho492 hb92 hl136 hC136 => ?_)))
      have ho493 := ho488.go hb92 (fun e => hn2 e)
      have ho494 := ho489.go hb92 (fun e => hn3 e)
      refine Zn (ew_blockN (Ze (cw_seq (Zr (Zo Z Z Z (ow_loadOwnA Z Z Z ho492 (Tryd.isAgg133 _) (Tryd.sizeOf133 _) Z (lw_op0 Z Z (ow_store (X := (One g)) (us := [(Zv x36), (Zv x32.Lo), (Zv x32.Hi), (.bool bb1)]) (cs' := #[(Zv x36), (Zv x32.Lo), (Zv x32.Hi), (.bool bb1)]) Z Z Z Z ho494 (Tryd.sizeOf133 _) Z Z Z Z hm7 (.inl hg2) Z hC136 fun w137 ho496 hb93 hl137 hC137 => ?_))))))))
      have ho497 := ho493.go hb93 (fun e => hn1 e)
      refine Zn (Ze (Zy ?_))
      have hw65 : VRep RTest w137 (Add g3 (Add g2 (Add g1 M))) ({ Field := x36, Lo := x32.Lo, Hi := x32.Hi, Not := (x2.1 == 0) } : Test) (.agg #[(Zv x36), (Zv x32.Lo), (Zv x32.Hi), (.bool bb1)]) := by subst hbb1; exact shut_Test
      obtain rfl := sj h
      exact ew_ret (res1 Z (.cell Z (own_loadVarA ho496 (Tryd.isAgg133 _) (Tryd.sizeOf133 _) Z))) ⟨_, Z, ⟨(hw65.mono hC137.back), ho497⟩, hC137.bx⟩
     ·
      obtain rfl := hbb20.trans hc19
      refine Zu Z (cw_seq (Zr (Zo Z Z Z (ow_eqlI Z Z Z fun bb21 hbb21 => Zo Z Z Z (Za Z Z (Zn (Ze ?_)))))))
      replace h := Zc h
      rcases h with ⟨hc20, h⟩ | ⟨hc20, h⟩
      ·
       obtain rfl := hbb21.trans hc20
       refine cw_true Z (Zr (Zo Z Z Z (Zf Z Z Tryd.underlying133 Z (Tryd.sizeOf3 _) (Zo Z Z Z (ow_loadOwn1 Z Z Z ho482 (Tryd.isAgg3 _) Z (Zo Z Z Z (ow_add Z Z Z (Zo Z Z Z (Zf Z Z Tryd.underlying133 Z (Tryd.sizeOf3 _) (lw_op0 Z Z (ow_store (X := (One g)) (us := [(Zv (W (x32.Hi + 1)))]) (cs' := #[(Zv x1.1), (Zv (W (x32.Hi + 1))), (Zv x32.Hi), (.bool bb1)]) Z Z Z Z ho482 (Tryd.sizeOf3 _) Z Z Z Z hm8 (.inl hg4) Z hC133 fun w138 ho500 hb94 hl138 hC138 => ?_)))))))))))
       have ho501 := ho480.go hb94 (fun e => hn2 e)
       have ho502 := ho481.go hb94 (fun e => hn3 e)
       refine Zn (ew_blockN (Ze (cw_seq (Zr (Zo Z Z Z (ow_loadOwnA Z Z Z ho500 (Tryd.isAgg133 _) (Tryd.sizeOf133 _) Z (lw_op0 Z Z (ow_store (X := (One g)) (us := [(Zv x1.1), (Zv (W (x32.Hi + 1))), (Zv x32.Hi), (.bool bb1)]) (cs' := #[(Zv x1.1), (Zv (W (x32.Hi + 1))), (Zv x32.Hi), (.bool bb1)]) Z Z Z Z ho502 (Tryd.sizeOf133 _) Z Z Z Z hm7 (.inl hg2) Z hC138 fun w139 ho504 hb95 hl139 hC139 => ?_))))))))
       have ho505 := ho501.go hb95 (fun e => hn1 e)
       refine Zn (Ze (Zy ?_))
       have hw67 : VRep RTest w139 (Add g3 (Add g2 (Add g1 M))) ({ Field := x1.1, Lo := (W (x32.Hi + 1)), Hi := x32.Hi, Not := (x2.1 == 0) } : Test) (.agg #[(Zv x1.1), (Zv (W (x32.Hi + 1))), (Zv x32.Hi), (.bool bb1)]) := by subst hbb1; exact shut_Test
       obtain rfl := sj h
       exact ew_ret (res1 Z (.cell Z (own_loadVarA ho504 (Tryd.isAgg133 _) (Tryd.sizeOf133 _) Z))) ⟨_, Z, ⟨(hw67.mono hC139.back), ho505⟩, hC139.bx⟩
      ·
       obtain rfl := hbb21.trans hc20
       refine Zu Z (Zr (Zo Z Z Z (Zm Z Z (Zo Z Z Z (ow_add Z Z Z (Zo Z Z Z (Zf Z Z Tryd.underlying133 Z (Tryd.sizeOf3 _) (lw_op0 Z Z (ow_store (X := (One g)) (us := [(Zv (W (x3 + 1)))]) (cs' := #[(Zv x1.1), (Zv x32.Lo), (Zv (W (x3 + 1))), (.bool bb1)]) Z Z Z Z ho482 (Tryd.sizeOf3 _) Z Z Z Z hm8 (.inl hg4) Z hC133 fun w140 ho508 hb96 hl140 hC140 => ?_)))))))))
       have ho509 := ho480.go hb96 (fun e => hn2 e)
       have ho510 := ho481.go hb96 (fun e => hn3 e)
       refine Zn (ew_blockN (Ze (cw_seq (Zr (Zo Z Z Z (ow_loadOwnA Z Z Z ho508 (Tryd.isAgg133 _) (Tryd.sizeOf133 _) Z (lw_op0 Z Z (ow_store (X := (One g)) (us := [(Zv x1.1), (Zv x32.Lo), (Zv (W (x3 + 1))), (.bool bb1)]) (cs' := #[(Zv x1.1), (Zv x32.Lo), (Zv (W (x3 + 1))), (.bool bb1)]) Z Z Z Z ho510 (Tryd.sizeOf133 _) Z Z Z Z hm7 (.inl hg2) Z hC140 fun w141 ho512 hb97 hl141 hC141 => ?_))))))))
       have ho513 := ho509.go hb97 (fun e => hn1 e)
       refine Zn (Ze (Zy ?_))
       have hw69 : VRep RTest w141 (Add g3 (Add g2 (Add g1 M))) ({ Field := x1.1, Lo := x32.Lo, Hi := (W (x3 + 1)), Not := (x2.1 == 0) } : Test) (.agg #[(Zv x1.1), (Zv x32.Lo), (Zv (W (x3 + 1))), (.bool bb1)]) := by subst hbb1; exact shut_Test
       obtain rfl := sj h
       exact ew_ret (res1 Z (.cell Z (own_loadVarA ho512 (Tryd.isAgg133 _) (Tryd.sizeOf133 _) Z))) ⟨_, Z, ⟨(hw69.mono hC141.back), ho513⟩, hC141.bx⟩
    ·
     obtain rfl := hbb19.trans hc18
     refine Zu Z (cw_skip (Ze (cw_seq (Zr (Zo Z Z Z (ow_loadOwnA Z Z Z ho478 (Tryd.isAgg133 _) (Tryd.sizeOf133 _) Z (lw_op0 Z Z (ow_store (X := (One g)) (us := [(Zv x1.1), (Zv x32.Lo), (Zv x32.Hi), (.bool bb1)]) (cs' := #[(Zv x1.1), (Zv x32.Lo), (Zv x32.Hi), (.bool bb1)]) Z Z Z Z ho477 (Tryd.sizeOf133 _) Z Z Z Z hm7 (.inl hg2) Z hC132 fun w142 ho516 hb98 hl142 hC142 => ?_))))))))
     have ho517 := ho476.go hb98 (fun e => hn1 e)
     refine Zn (Ze (Zy ?_))
     have hw71 : VRep RTest w142 (Add g3 (Add g2 (Add g1 M))) ({ Field := x1.1, Lo := x32.Lo, Hi := x32.Hi, Not := (x2.1 == 0) } : Test) (.agg #[(Zv x1.1), (Zv x32.Lo), (Zv x32.Hi), (.bool bb1)]) := by subst hbb1; exact shut_Test
     obtain rfl := sj h
     exact ew_ret (res1 Z (.cell Z (own_loadVarA ho516 (Tryd.isAgg133 _) (Tryd.sizeOf133 _) Z))) ⟨_, Z, ⟨(hw71.mono hC142.back), ho517⟩, hC142.bx⟩
  ·
   obtain rfl := hbb18.trans hc17
   refine Zu Z (cw_skip (Ze (cw_seq (Zr (Zo Z Z Z (Zf Z Z Tryd.underlying69 Z (Tryd.sizeOf3 _) (Zo Z Z Z (ow_loadOwn1 Z Z Z ho407 (Tryd.isAgg3 _) Z (Zo Z Z Z (Zf Z Z Tryd.underlying133 Z (Tryd.sizeOf3 _) (lw_op0 Z Z (ow_store (X := (One g)) (us := [(Zv x4.1.Lo)]) (cs' := #[(Zv x1.1), (Zv x4.1.Lo), (Zv 0), (.bool bb1)]) Z Z Z Z ho406 (Tryd.sizeOf3 _) Z Z Z Z hm8 (.inl hg4) Z hC111 fun w143 ho520 hb99 hl143 hC143 => ?_))))))))))))
   have ho521 := ho404.go hb99 (fun e => hn2 e)
   have ho522 := ho405.go hb99 (fun e => hn3 e)
   have ho523 := ho407.go hb99 (fun e => hn6 e.symm)
   refine Zn (Ze (cw_seq (Zr (Zo Z Z Z (Zf Z Z Tryd.underlying69 Z (Tryd.sizeOf3 _) (Zo Z Z Z (ow_loadOwn1 Z Z Z ho523 (Tryd.isAgg3 _) Z (Zo Z Z Z (Zf Z Z Tryd.underlying133 Z (Tryd.sizeOf3 _) (lw_op0 Z Z (ow_store (X := (One g)) (us := [(Zv x4.1.Hi)]) (cs' := #[(Zv x1.1), (Zv x4.1.Lo), (Zv x4.1.Hi), (.bool bb1)]) Z Z Z Z ho520 (Tryd.sizeOf3 _) Z Z Z Z hm8 (.inl hg4) Z hC143 fun w144 ho524 hb100 hl144 hC144 => ?_)))))))))))
   have ho525 := ho521.go hb100 (fun e => hn2 e)
   have ho526 := ho522.go hb100 (fun e => hn3 e)
   refine Zn (Ze (cw_seq (cw_seq (Zr (Zo Z Z Z (Zm Z Z (Zo Z Z Z (Zm Z Z ?_))))))))
   have lz25 := (((lz19.trans hl111).trans hl143).trans hl144)
   replace h := bind_some h
   obtain ⟨x37, hx37, h⟩ := h
   refine Zo Z Z Z (Zk Z Z Tryd.call83 (w_spec_l20Rd_odd (hG.mono lz25) hC144.old (VRep.mono lz25 hxs) ho525 hm6 hx37) fun v53 w145 hv53 => ?_)
   obtain ⟨⟨hv53, ho528⟩, hb101⟩ := hv53
   have hl145 := Le.of_bx (Add g3 (Add g2 (Add g1 M))) hb101 (fun b e => (by rw [show b = g from e]; exact hm6))
   have hC145 := hC144.go hb101 (fun b e => Or.inr e)
   have ho529 := ho526.go hb101 (fun e => hn1 e.symm)
   have ho530 := ho524.go hb101 (fun e => hn2 e.symm)
   obtain ⟨bb22, hbb22, rfl⟩ := vbool_ex hv53
   refine Zn (Ze ?_)
   replace h := Zc h
   rcases h with ⟨hc21, h⟩ | ⟨hc21, h⟩
   ·
    obtain rfl := hbb22.trans hc21
    refine cw_true Z (cw_seq (Zr (Zo Z Z Z (Zm Z Z ?_))))
    replace h := bind_some h
    obtain ⟨x38, hx38, h⟩ := h
    refine Zo Z Z Z (Zk Z Z Tryd.call63 (w_spec_l20Rd_pick (hG.mono (lz25.trans hl145)) hC145.old (VRep.mono (lz25.trans hl145) hxs) ho528 hm6 hx38) fun v54 w146 hv54 => ?_)
    obtain ⟨⟨hv54, ho532⟩, hb102⟩ := hv54
    have hl146 := Le.of_bx (Add g3 (Add g2 (Add g1 M))) hb102 (fun b e => (by rw [show b = g from e]; exact hm6))
    have hC146 := hC145.go hb102 (fun b e => Or.inr e)
    have ho533 := ho529.go hb102 (fun e => hn1 e.symm)
    have ho534 := ho530.go hb102 (fun e => hn2 e.symm)
    obtain rfl := Zi hv54
    refine Zn (Ze (cw_block (cw_seq (Zr (Zo Z Z Z (ow_eqlI Z Z Z fun bb23 hbb23 => Zo Z Z Z (Za Z Z (Zn (Ze ?_)))))))))
    replace h := Zc h
    rcases h with ⟨hc22, h⟩ | ⟨hc22, h⟩
    ·
     obtain rfl := hbb23.trans hc22
     refine cw_true Z (Zr (Zo Z Z Z (ow_buildSlice (R := RInt) (xs := [(-1), 4]) (cs := #[(Zv (-1)), (Zv 4)]) (e := 3) Z Z (by kernel_rfl) Z Z ⟨_, _, Z, (vint _).cells, _, _, Z, (vint _).cells, Z⟩ hC146 fun p20 w147 hw72 hb103 hl147 hC147 => ?_)))
     have ho536 := ho532.no hb103
     have ho537 := ho533.no hb103
     have ho538 := ho534.no hb103
     refine Zo Z Z Z (Zm Z Z ?_)
     have lz26 := (((lz25.trans hl145).trans hl146).trans hl147)
     replace h := bind_some h
     obtain ⟨x39, hx39, h⟩ := h
     refine Zo Z Z Z (Zk Z Z Tryd.call63 (w_spec_l20Rd_pick (hG.mono lz26) hC147.old (VRep.mono lz26 hxs) ho536 hm6 hx39) fun v55 w148 hv55 => ?_)
     obtain ⟨⟨hv55, ho540⟩, hb104⟩ := hv55
     have hl148 := Le.of_bx (Add g3 (Add g2 (Add g1 M))) hb104 (fun b e => (by rw [show b = g from e]; exact hm6))
     have hC148 := hC147.go hb104 (fun b e => Or.inr e)
     have ho541 := ho537.go hb104 (fun e => hn1 e.symm)
     have ho542 := ho538.go hb104 (fun e => hn2 e.symm)
     obtain rfl := Zi hv55
     replace h := bind_some h
     obtain ⟨x40, hx40, h⟩ := h
     refine Zo Z Z Z (Zx (R := RInt) Z Z Z (VRep.mono hl148 hw72) Tryd.underlying70 (Tryd.sizeOf3 _) hx40 fun p21 hp21 => Zo Z Z Z (Zl (R := RInt) Z Z hp21 (Tryd.sizeOf3 _) (Tryd.isAgg3 _) fun v56 hv56 => ?_))
     obtain rfl := Zi hv56
     refine Zo Z Z Z (Zf Z Z Tryd.underlying133 Z (Tryd.sizeOf3 _) (lw_op0 Z Z (ow_store (X := (One g)) (us := [(Zv x40)]) (cs' := #[(Zv x40), (Zv x4.1.Lo), (Zv x4.1.Hi), (.bool bb1)]) Z Z Z Z ho542 (Tryd.sizeOf3 _) Z Z Z Z hm8 (.inl hg4) Z hC148 fun w149 ho544 hb105 hl149 hC149 => ?_)))
     have ho545 := ho540.go hb105 (fun e => hn2 e)
     have ho546 := ho541.go hb105 (fun e => hn3 e)
     refine Zn (ew_blockN (Ze (cw_seq (Zr (Zo Z Z Z (ow_loadOwnA Z Z Z ho544 (Tryd.isAgg133 _) (Tryd.sizeOf133 _) Z (lw_op0 Z Z (ow_store (X := (One g)) (us := [(Zv x40), (Zv x4.1.Lo), (Zv x4.1.Hi), (.bool bb1)]) (cs' := #[(Zv x40), (Zv x4.1.Lo), (Zv x4.1.Hi), (.bool bb1)]) Z Z Z Z ho546 (Tryd.sizeOf133 _) Z Z Z Z hm7 (.inl hg2) Z hC149 fun w150 ho548 hb106 hl150 hC150 => ?_))))))))
     have ho549 := ho545.go hb106 (fun e => hn1 e)
     refine Zn (Ze (Zy ?_))
     have hw74 : VRep RTest w150 (Add g3 (Add g2 (Add g1 M))) ({ Field := x40, Lo := x4.1.Lo, Hi := x4.1.Hi, Not := (x2.1 == 0) } : Test) (.agg #[(Zv x40), (Zv x4.1.Lo), (Zv x4.1.Hi), (.bool bb1)]) := by subst hbb1; exact shut_Test
     obtain rfl := sj h
     exact ew_ret (res1 Z (.cell Z (own_loadVarA ho548 (Tryd.isAgg133 _) (Tryd.sizeOf133 _) Z))) ⟨_, Z, ⟨(hw74.mono hC150.back), ho549⟩, hC150.bx⟩
    ·
     obtain rfl := hbb23.trans hc22
     refine Zu Z (cw_seq (Zr (Zo Z Z Z (ow_eqlI Z Z Z fun bb24 hbb24 => Zo Z Z Z (Za Z Z (Zn (Ze ?_)))))))
     replace h := Zc h
     rcases h with ⟨hc23, h⟩ | ⟨hc23, h⟩
     ·
      obtain rfl := hbb24.trans hc23
      refine cw_true Z (Zr (Zo Z Z Z (Zf Z Z Tryd.underlying133 Z (Tryd.sizeOf3 _) (Zo Z Z Z (ow_loadOwn1 Z Z Z ho534 (Tryd.isAgg3 _) Z (Zo Z Z Z (ow_add Z Z Z (Zo Z Z Z (Zf Z Z Tryd.underlying133 Z (Tryd.sizeOf3 _) (lw_op0 Z Z (ow_store (X := (One g)) (us := [(Zv (W (x4.1.Hi + 1)))]) (cs' := #[(Zv x1.1), (Zv (W (x4.1.Hi + 1))), (Zv x4.1.Hi), (.bool bb1)]) Z Z Z Z ho534 (Tryd.sizeOf3 _) Z Z Z Z hm8 (.inl hg4) Z hC146 fun w151 ho552 hb107 hl151 hC151 => ?_)))))))))))
      have ho553 := ho532.go hb107 (fun e => hn2 e)
      have ho554 := ho533.go hb107 (fun e => hn3 e)
      refine Zn (ew_blockN (Ze (cw_seq (Zr (Zo Z Z Z (ow_loadOwnA Z Z Z ho552 (Tryd.isAgg133 _) (Tryd.sizeOf133 _) Z (lw_op0 Z Z (ow_store (X := (One g)) (us := [(Zv x1.1), (Zv (W (x4.1.Hi + 1))), (Zv x4.1.Hi), (.bool bb1)]) (cs' := #[(Zv x1.1), (Zv (W (x4.1.Hi + 1))), (Zv x4.1.Hi), (.bool bb1)]) Z Z Z Z ho554 (Tryd.sizeOf133 _) Z Z Z Z hm7 (.inl hg2) Z hC151 fun w152 ho556 hb108 hl152 hC152 => ?_))))))))
      have ho557 := ho553.go hb108 (fun e => hn1 e)
      refine Zn (Ze (Zy ?_))
      have hw76 : VRep RTest w152 (Add g3 (Add g2 (Add g1 M))) ({ Field := x1.1, Lo := (W (x4.1.Hi + 1)), Hi := x4.1.Hi, Not := (x2.1 == 0) } : Test) (.agg #[(Zv x1.1), (Zv (W (x4.1.Hi + 1))), (Zv x4.1.Hi), (.bool bb1)]) := by subst hbb1; exact shut_Test
      obtain rfl := sj h
      exact ew_ret (res1 Z (.cell Z (own_loadVarA ho556 (Tryd.isAgg133 _) (Tryd.sizeOf133 _) Z))) ⟨_, Z, ⟨(hw76.mono hC152.back), ho557⟩, hC152.bx⟩
     ·
      obtain rfl := hbb24.trans hc23
      refine Zu Z (Zr (Zo Z Z Z (Zm Z Z (Zo Z Z Z (ow_add Z Z Z (Zo Z Z Z (Zf Z Z Tryd.underlying133 Z (Tryd.sizeOf3 _) (lw_op0 Z Z (ow_store (X := (One g)) (us := [(Zv (W (x3 + 1)))]) (cs' := #[(Zv x1.1), (Zv x4.1.Lo), (Zv (W (x3 + 1))), (.bool bb1)]) Z Z Z Z ho534 (Tryd.sizeOf3 _) Z Z Z Z hm8 (.inl hg4) Z hC146 fun w153 ho560 hb109 hl153 hC153 => ?_)))))))))
      have ho561 := ho532.go hb109 (fun e => hn2 e)
      have ho562 := ho533.go hb109 (fun e => hn3 e)
      refine Zn (ew_blockN (Ze (cw_seq (Zr (Zo Z Z Z (ow_loadOwnA Z Z Z ho560 (Tryd.isAgg133 _) (Tryd.sizeOf133 _) Z (lw_op0 Z Z (ow_store (X := (One g)) (us := [(Zv x1.1), (Zv x4.1.Lo), (Zv (W (x3 + 1))), (.bool bb1)]) (cs' := #[(Zv x1.1), (Zv x4.1.Lo), (Zv (W (x3 + 1))), (.bool bb1)]) Z Z Z Z ho562 (Tryd.sizeOf133 _) Z Z Z Z hm7 (.inl hg2) Z hC153 fun w154 ho564 hb110 hl154 hC154 => ?_))))))))
      have ho565 := ho561.go hb110 (fun e => hn1 e)
      refine Zn (Ze (Zy ?_))
      have hw78 : VRep RTest w154 (Add g3 (Add g2 (Add g1 M))) ({ Field := x1.1, Lo := x4.1.Lo, Hi := (W (x3 + 1)), Not := (x2.1 == 0) } : Test) (.agg #[(Zv x1.1), (Zv x4.1.Lo), (Zv (W (x3 + 1))), (.bool bb1)]) := by subst hbb1; exact shut_Test
      obtain rfl := sj h
      exact ew_ret (res1 Z (.cell Z (own_loadVarA ho564 (Tryd.isAgg133 _) (Tryd.sizeOf133 _) Z))) ⟨_, Z, ⟨(hw78.mono hC154.back), ho565⟩, hC154.bx⟩
   ·
    obtain rfl := hbb22.trans hc21
    refine Zu Z (cw_skip (Ze (cw_seq (Zr (Zo Z Z Z (ow_loadOwnA Z Z Z ho530 (Tryd.isAgg133 _) (Tryd.sizeOf133 _) Z (lw_op0 Z Z (ow_store (X := (One g)) (us := [(Zv x1.1), (Zv x4.1.Lo), (Zv x4.1.Hi), (.bool bb1)]) (cs' := #[(Zv x1.1), (Zv x4.1.Lo), (Zv x4.1.Hi), (.bool bb1)]) Z Z Z Z ho529 (Tryd.sizeOf133 _) Z Z Z Z hm7 (.inl hg2) Z hC145 fun w155 ho568 hb111 hl155 hC155 => ?_))))))))
    have ho569 := ho528.go hb111 (fun e => hn1 e)
    refine Zn (Ze (Zy ?_))
    have hw80 : VRep RTest w155 (Add g3 (Add g2 (Add g1 M))) ({ Field := x1.1, Lo := x4.1.Lo, Hi := x4.1.Hi, Not := (x2.1 == 0) } : Test) (.agg #[(Zv x1.1), (Zv x4.1.Lo), (Zv x4.1.Hi), (.bool bb1)]) := by subst hbb1; exact shut_Test
    obtain rfl := sj h
    exact ew_ret (res1 Z (.cell Z (own_loadVarA ho568 (Tryd.isAgg133 _) (Tryd.sizeOf133 _) Z))) ⟨_, Z, ⟨(hw80.mono hC155.back), ho569⟩, hC155.bx⟩

theorem w_spec_l20Tests {w : World} {M : Nat → Prop} (hG : ARep (RArr 4 RShape) w M shapes ⟨0, 0, none⟩) (hO : ∀ b, M b → b < w.heap.size) {g : Nat} {Ax : Option Addr} {cx : Nat} {a_xs : List Int} {a_pos : Int} (hxs : VRep (RSlice RU8) w M a_xs (.slice Ax a_xs.length cx)) (hown : Own w g 97 #[.slice Ax a_xs.length cx, .int .i64 a_pos]) (hgM : M g) {a_n : Int} {r : ((List Test)) × Int} (h : F.spec_l20Tests a_xs a_pos a_n = some r) :
  Calls Tryd.prog 82 [(.pointer (some ⟨g, 0, none⟩)), (.int .i64 a_n)].toArray w fun e w' => ∃ v, e = .returned v ∧ (VRep (RSlice RTest) w' M r.1 v ∧ Own w' g 97 #[.slice Ax a_xs.length cx, .int .i64 r.2]) ∧ BX (One g) w w' := by
 obtain ⟨i133, hi133, hz133, hs133, hy133⟩ := info133
 have hX : ∀ b, (One g) b → M b := fun b e => e ▸ hgM
 have hC : Cx (One g) w M w M := Cx.start hO hX
 refine walk (N := 32) Tryd.func82 Z Tryd.ntmps82 Z (cw_seq (Zr (Zo Z Z Z (Za Z Z (Zn (Ze (cw_seq (Zr (Zo Z Z Z (ow_buildSlice0 (R := RTest) (e := 133) Z (by kernel_rfl) hC fun p1 w1 M1 hr1 hb1 hl1 hC1 hM1 hat1 => ?_))))))))))
 have ho1 := hown.no hb1
 have hm1 := hM1 _ hgM
 refine Zo Z Z Z (Za Z Z (Zn (Ze (cw_seq (cw_seq (Zr (Zo Z Z Z (Zm Z Z ?_))))))))
 replace h := bind_some h
 obtain ⟨x1, hx1, h⟩ := h
 refine Zo Z Z Z (Zk Z Z Tryd.call63 (w_spec_l20Rd_pick (hG.mono hl1) hC1.old (VRep.mono hl1 hxs) ho1 hm1 hx1) fun v1 w2 hv1 => ?_)
 obtain ⟨⟨hv1, ho2⟩, hb2⟩ := hv1
 have hl2 := Le.of_bx M1 hb2 (fun b e => (by rw [show b = g from e]; exact hm1))
 have hC2 := hC1.go hb2 (fun b e => Or.inr e)
 have hr2 := hr1.go hb2 (fun k hk e => (orow_ne hr1 ho1 (by decide)) (hk.trans (congrArg some e))) hl2 (fun _ h => h)
 obtain rfl := Zi hv1
 refine Zo Z Z Z (Za Z Z (Zn (Ze ?_)))
 replace h := bind_some h
 obtain ⟨lr1, hlr1, h⟩ := h
 refine cw_for hlr1 (fun s a w' => ∃ (M' : Nat → Prop) (v0c : Value), Fits 32 [(0, (Zw g 0)), (1, (Zv a_n)), (5, v0c), (6, (Zv s.2.1))] a ∧ Le w2 M1 w' M' ∧ Cx (One g) w M w' M' ∧ OwnRow RTest w.heap.size 133 w' M' s.1 v0c ∧ Own w' g 97 #[(.slice Ax a_xs.length cx), (Zv s.2.2)] ∧ M' g) ?_ ?_ ?_
 · exact fun a ha => ⟨M1, (.slice (some p1) 0 0), ha.sub ⟨Z, Z, Z, Z, Zt⟩, Le.refl _ _, hC2, hr2, ho2, hm1⟩
 ·
  rintro ⟨y1, k1, k2⟩ a w3 sr1 ⟨M2, v2, hF1, hl3, hC3, hw1, ho3, hm2⟩ hb3 hR1
  refine cw_at (E := [(0, (Zw g 0)), (1, (Zv a_n)), (5, v2), (6, (Zv k1))]) hF1 (cw_seq (cw_seq (Zr (Zo Z Z Z (Zm Z Z (Zo Z Z Z (ow_gtr Z Z Z fun bb1 hbb1 => Zn (Ze ?_))))))))
  replace hb3 := Zc hb3
  rcases hb3 with ⟨hc1, hb3⟩ | ⟨hc1, hb3⟩
  ·
   obtain rfl := hbb1.trans hc1
   refine cw_true Z (cw_skip (Ze (cw_seq (cw_block (Zr (Zo Z Z Z (Zm Z Z (Zo Z Z Z (Zm Z Z ?_)))))))))
   have lz1 := ((hl1.trans hl2).trans hl3)
   replace hb3 := bind_some hb3
   obtain ⟨x2, hx2, hb3⟩ := hb3
   refine Zo Z Z Z (Zk Z Z Tryd.call103 (w_spec_l20Test (hG.mono lz1) hC3.old (VRep.mono lz1 hxs) ho3 hm2 hx2) fun v5 w4 hv5 => ?_)
   obtain ⟨⟨hv5, ho4⟩, hb4⟩ := hv5
   have hl4 := Le.of_bx M2 hb4 (fun b e => (by rw [show b = g from e]; exact hm2))
   have hC4 := hC3.go hb4 (fun b e => Or.inr e)
   have hr3 := hw1.go hb4 (fun k hk e => (orow_ne hw1 ho3 (by decide)) (hk.trans (congrArg some e))) hl4 (fun _ h => h)
   obtain rfl := open_Test hv5
   refine Zo Z Z Z (ow_buildSlice (R := RTest) (xs := [x2.1]) (cs := #[(Zv x2.1.Field), (Zv x2.1.Lo), (Zv x2.1.Hi), (.bool x2.1.Not)]) (e := 133) Z Z (by kernel_rfl) Z Z ⟨_, _, Z, hv5.cells, Z⟩ hC4 fun p2 w5 hw2 hb5 hl5 hC5 => ?_)
   have ho5 := ho4.no hb5
   have hr4 := hr3.no hb5
   replace hb3 := bind_some hb3
   obtain ⟨z1, hz1, hb3⟩ := hb3
   refine Zo Z Z Z (ow_append (R := RTest) Z Z Z Z Tryd.underlying113 hi133 hz133 hs133 hy133 Z Z Z Z hr4 hw2 hz1 hC5 fun v6 w6 M3 hr5 hb6 hl6 hC6 hM2 hat2 => ?_)
   have ho6 := ho5.go hb6 (fun e => (orow_ne hr4 ho5 (by decide)) e)
   have hm3 := hM2 _ hm2
   refine Zo Z Z Z (Za Z Z (Zn (ew_blockN (Ze (Zr (Zo Z Z Z (Zm Z Z (Zo Z Z Z (ow_sub Z Z Z (Zo Z Z Z (Za Z Z (Zn ?_))))))))))))
   have lz2 := (((hl3.trans hl4).trans hl5).trans hl6)
   exact ew_nxt (z1, (W (k1 - 1)), x2.2) hb3 fun a ha => ⟨M3, v6, (ha.sub ⟨Z, Z, Z, Z, Zt⟩), lz2, hC6, hr5, ho6, hm3⟩
  ·
   obtain rfl := hbb1.trans hc1
   exact Zu Z (cw_exit (ew_thenX (ew_thenX (ew_blockX (ew_brk (y1, k1, k2) hb3 fun a ha => ⟨M2, v2, (ha.sub ⟨Z, Z, Z, Z, Zt⟩), hl3, hC3, hw1, ho3, hm2⟩)))))
 ·
  rintro ⟨y2, k3, k4⟩ a w7 hlr2 ⟨M4, v7, hF2, hl7, hC7, hw3, ho7, hm4⟩
  subst hlr2
  refine ew_at (E := [(0, (Zw g 0)), (1, (Zv a_n)), (5, v7), (6, (Zv k3))]) hF2 (Ze (cw_seq (cw_seq (Zr (Zo Z Z Z (Zm Z Z (Zo Z Z Z (Zm Z Z ?_))))))))
  have lz3 := ((hl1.trans hl2).trans hl7)
  replace h := bind_some h
  obtain ⟨x3, hx3, h⟩ := h
  refine Zo Z Z Z (Zk Z Z Tryd.call83 (w_spec_l20Rd_odd (hG.mono lz3) hC7.old (VRep.mono lz3 hxs) ho7 hm4 hx3) fun v10 w8 hv10 => ?_)
  obtain ⟨⟨hv10, ho8⟩, hb7⟩ := hv10
  have hl8 := Le.of_bx M4 hb7 (fun b e => (by rw [show b = g from e]; exact hm4))
  have hC8 := hC7.go hb7 (fun b e => Or.inr e)
  have hr6 := hw3.go hb7 (fun k hk e => (orow_ne hw3 ho7 (by decide)) (hk.trans (congrArg some e))) hl8 (fun _ h => h)
  obtain ⟨bb2, hbb2, rfl⟩ := vbool_ex hv10
  refine Zn (Ze ?_)
  replace h := Zc h
  rcases h with ⟨hc2, h⟩ | ⟨hc2, h⟩
  ·
   obtain rfl := hbb2.trans hc2
   refine cw_true Z (cw_seq (Zr (Zo Z Z Z (Zm Z Z ?_))))
   replace h := bind_some h
   obtain ⟨x4, hx4, h⟩ := h
   refine Zo Z Z Z (Zk Z Z Tryd.call63 (w_spec_l20Rd_pick (hG.mono (lz3.trans hl8)) hC8.old (VRep.mono (lz3.trans hl8) hxs) ho8 hm4 hx4) fun v11 w9 hv11 => ?_)
   obtain ⟨⟨hv11, ho9⟩, hb8⟩ := hv11
   have hl9 := Le.of_bx M4 hb8 (fun b e => (by rw [show b = g from e]; exact hm4))
   have hC9 := hC8.go hb8 (fun b e => Or.inr e)
   have hr7 := hr6.go hb8 (fun k hk e => (orow_ne hr6 ho8 (by decide)) (hk.trans (congrArg some e))) hl9 (fun _ h => h)
   obtain rfl := Zi hv11
   refine Zo Z Z Z (ow_eqlI Z Z Z fun bb3 hbb3 => Zn (Ze ?_))
   replace h := Zc h
   rcases h with ⟨hc3, h⟩ | ⟨hc3, h⟩
   ·
    obtain rfl := hbb3.trans hc3
    refine cw_true Z (Zr (Zo Z Z Z (Zm Z Z (Zo Z Z Z (Zm Z Z ?_)))))
    have lz4 := ((lz3.trans hl8).trans hl9)
    replace h := bind_some h
    obtain ⟨x5, hx5, h⟩ := h
    refine Zo Z Z Z (Zk Z Z Tryd.call103 (w_spec_l20Test (hG.mono lz4) hC9.old (VRep.mono lz4 hxs) ho9 hm4 hx5) fun v12 w10 hv12 => ?_)
    obtain ⟨⟨hv12, ho10⟩, hb9⟩ := hv12
    have hl10 := Le.of_bx M4 hb9 (fun b e => (by rw [show b = g from e]; exact hm4))
    have hC10 := hC9.go hb9 (fun b e => Or.inr e)
    have hr8 := hr7.go hb9 (fun k hk e => (orow_ne hr7 ho9 (by decide)) (hk.trans (congrArg some e))) hl10 (fun _ h => h)
    obtain rfl := open_Test hv12
    refine Zo Z Z Z (ow_buildSlice (R := RTest) (xs := [x5.1]) (cs := #[(Zv x5.1.Field), (Zv x5.1.Lo), (Zv x5.1.Hi), (.bool x5.1.Not)]) (e := 133) Z Z (by kernel_rfl) Z Z ⟨_, _, Z, hv12.cells, Z⟩ hC10 fun p3 w11 hw4 hb10 hl11 hC11 => ?_)
    have ho11 := ho10.no hb10
    have hr9 := hr8.no hb10
    replace h := bind_some h
    obtain ⟨z2, hz2, h⟩ := h
    refine Zo Z Z Z (ow_append (R := RTest) Z Z Z Z Tryd.underlying113 hi133 hz133 hs133 hy133 Z Z Z Z hr9 hw4 hz2 hC11 fun v13 w12 M5 hr10 hb11 hl12 hC12 hM3 hat3 => ?_)
    have ho12 := ho11.go hb11 (fun e => (orow_ne hr9 ho11 (by decide)) e)
    refine Zo Z Z Z (Za Z Z (Zn (Ze (cw_seq (Zr (Zo Z Z Z (Zm Z Z (Zo Z Z Z (Za Z Z (Zn (Ze (Zy ?_))))))))))))
    obtain rfl := sj h
    exact ew_ret (res1 Z (.tmp Z)) ⟨_, Z, ⟨(hr10.freezeBack hC12 hO), ho12⟩, hC12.bx⟩
   ·
    obtain rfl := hbb3.trans hc3
    refine Zu Z (Zr ?_)
    replace h := bind_some h
    obtain ⟨mk1, hmk1, h⟩ := h
    refine Zo Z Z Z (ow_make (R := RTest) Z Z Z Tryd.underlying113 hi133 hz133 hs133 hy133 Z Z (shut_Test) hmk1 hC9 fun v14 w13 M6 hr11 hb12 hl13 hC13 hM4 hat4 => ?_)
    have ho13 := ho9.no hb12
    refine Zo Z Z Z (Za Z Z (Zn (Ze (cw_seq (Zr (Zo Z Z Z (Zm Z Z (Zo Z Z Z (Za Z Z (Zn (Ze (Zy ?_))))))))))))
    obtain rfl := sj h
    exact ew_ret (res1 Z (.tmp Z)) ⟨_, Z, ⟨(hr11.freezeBack hC13 hO), ho13⟩, hC13.bx⟩
  ·
   obtain rfl := hbb2.trans hc2
   refine Zu Z (cw_skip (Ze (cw_seq (Zr (Zo Z Z Z (Zm Z Z (Zo Z Z Z (Za Z Z (Zn (Ze (Zy ?_)))))))))))
   obtain rfl := sj h
   exact ew_ret (res1 Z (.tmp Z)) ⟨_, Z, ⟨(hr6.freezeBack hC8 hO), ho8⟩, hC8.bx⟩

theorem w_spec_l20Box {w : World} {M : Nat → Prop} (hG : ARep (RArr 4 RShape) w M shapes ⟨0, 0, none⟩) (hO : ∀ b, M b → b < w.heap.size) {g : Nat} {Ax : Option Addr} {cx : Nat} {a_xs : List Int} {a_pos : Int} (hxs : VRep (RSlice RU8) w M a_xs (.slice Ax a_xs.length cx)) (hown : Own w g 97 #[.slice Ax a_xs.length cx, .int .i64 a_pos]) (hgM : M g) {a_n : Int} {r : Box × Int} (h : F.spec_l20Box a_xs a_pos a_n = some r) :
  Calls Tryd.prog 47 [(.pointer (some ⟨g, 0, none⟩)), (.int .i64 a_n)].toArray w fun e w' => ∃ v, e = .returned v ∧ (VRep RBox w' M r.1 v ∧ Own w' g 97 #[.slice Ax a_xs.length cx, .int .i64 r.2]) ∧ BX (One g) w w' := by
 obtain ⟨i59, hi59, hz59, hs59, hy59⟩ := info59
 have hX : ∀ b, (One g) b → M b := fun b e => e ▸ hgM
 have hC : Cx (One g) w M w M := Cx.start hO hX
 refine walk (N := 48) Tryd.func47 Z Tryd.ntmps47 Z (cw_seq (Zr (Zo Z Z Z (ow_alloc Z (Tryd.zeroValue25 _) hC fun g1 w1 hg1 hg2 ho1 hb1 hl1 hC1 => ?_))))
 have hn1 := Nat.ne_of_lt (Nat.lt_of_lt_of_le hown.lt hg1)
 have ho2 := hown.no hb1
 have hm1 : (Add g1 M) g := .inr hgM
 have hm2 : (Add g1 M) g1 := .inl Z
 refine Zn (Ze (cw_seq (Zr (Zo Z Z Z (Zm Z Z ?_)))))
 replace h := bind_some h
 obtain ⟨x1, hx1, h⟩ := h
 refine Zo Z Z Z (Zk Z Z Tryd.call82 (w_spec_l20Tests (hG.mono hl1) hC1.old (VRep.mono hl1 hxs) ho2 hm1 hx1) fun v1 w2 hv1 => ?_)
 obtain ⟨⟨hv1, ho3⟩, hb2⟩ := hv1
 have hl2 := Le.of_bx (Add g1 M) hb2 (fun b e => (by rw [show b = g from e]; exact hm1))
 have hC2 := hC1.go hb2 (fun b e => Or.inr e)
 have ho4 := ho1.go hb2 (fun e => hn1 e.symm)
 replace h := bind_some h
 obtain ⟨x2, hx2, h⟩ := h
 refine Zo Z Z Z (Zk Z Z Tryd.call81 (wo_spec_TestsBox (hG.mono (hl1.trans hl2)) hC2.old hv1 hx2) fun v2 w3 hv2 => ?_)
 obtain ⟨⟨M1, v3, rfl, hr1, hk1⟩, hb3⟩ := hv2
 replace hr1 := hr1.base hC2.bx.size
 have hl3 := hk1.le
 have hC3 := hC2.trans hk1
 have ho5 := ho3.no hb3
 have hm3 := hk1.sup _ hm1
 have ho6 := ho4.no hb3
 have hm4 := hk1.sup _ hm2
 obtain ⟨A1, c1, rfl⟩ := hr1.len
 refine Zo Z Z Z (ow_alloc Z (Tryd.zeroValue25 _) hC3 fun g2 w4 hg3 hg4 ho7 hb4 hl4 hC4 => ?_)
 have hn2 := Nat.ne_of_lt (Nat.lt_of_lt_of_le ho5.lt hg3)
 have ho8 := ho5.no hb4
 have hm5 : (Add g2 M1) g := .inr hm3
 have hn3 := Nat.ne_of_lt (Nat.lt_of_lt_of_le ho6.lt hg3)
 have ho9 := ho6.no hb4
 have hm6 : (Add g2 M1) g1 := .inr hm4
 have hr2 := hr1.add hb4 hg3
 have hm7 : (Add g2 M1) g2 := .inl Z
 refine lw_op0 Z Z (ow_store (X := (One g)) (us := [(.slice A1 x2.Sides.length c1)]) (cs' := #[(.slice A1 x2.Sides.length c1)]) Z Z Z Z ho7 (Tryd.sizeOf25 _) Z Z Z Z hm7 (.inl hg4) Z hC4 fun w5 ho10 hb5 hl5 hC5 => ?_)
 have ho11 := ho8.go hb5 (fun e => hn2 e)
 have ho12 := ho9.go hb5 (fun e => hn3 e)
 have hr3 := hr2.go hb5 (fun k hk e => (orow_ne hr2 ho7 (by decide)) (hk.trans (congrArg some e))) hl5 (fun _ h => h)
 refine Zn (Ze (cw_seq (cw_seq (Zr (Zo Z Z Z (Zm Z Z ?_))))))
 have lz1 := ((((hl1.trans hl2).trans hl3).trans hl4).trans hl5)
 replace h := bind_some h
 obtain ⟨x3, hx3, h⟩ := h
 refine Zo Z Z Z (Zk Z Z Tryd.call63 (w_spec_l20Rd_pick (hG.mono lz1) hC5.old (VRep.mono lz1 hxs) ho11 hm5 hx3) fun v4 w6 hv4 => ?_)
 obtain ⟨⟨hv4, ho13⟩, hb6⟩ := hv4
 have hl6 := Le.of_bx (Add g2 M1) hb6 (fun b e => (by rw [show b = g from e]; exact hm5))
 have hC6 := hC5.go hb6 (fun b e => Or.inr e)
 have ho14 := ho12.go hb6 (fun e => hn1 e.symm)
 have ho15 := ho10.go hb6 (fun e => hn2 e.symm)
 have hr4 := hr3.go hb6 (fun k hk e => (orow_ne hr3 ho11 (by decide)) (hk.trans (congrArg some e))) hl6 (fun _ h => h)
 obtain rfl := Zi hv4
 refine Zo Z Z Z (ow_eqlI Z Z Z fun bb1 hbb1 => Zn (Ze ?_))
 replace h := Zc h
 rcases h with ⟨hc1, h⟩ | ⟨hc1, h⟩
 ·
  obtain rfl := hbb1.trans hc1
  refine cw_true Z (cw_seq (Zr (Zo Z Z Z (Zm Z Z ?_))))
  replace h := bind_some h
  obtain ⟨x4, hx4, h⟩ := h
  refine Zo Z Z Z (Zk Z Z Tryd.call63 (w_spec_l20Rd_pick (hG.mono (lz1.trans hl6)) hC6.old (VRep.mono (lz1.trans hl6) hxs) ho13 hm5 hx4) fun v5 w7 hv5 => ?_)
  obtain ⟨⟨hv5, ho16⟩, hb7⟩ := hv5
  have hl7 := Le.of_bx (Add g2 M1) hb7 (fun b e => (by rw [show b = g from e]; exact hm5))
  have hC7 := hC6.go hb7 (fun b e => Or.inr e)
  have ho17 := ho14.go hb7 (fun e => hn1 e.symm)
  have ho18 := ho15.go hb7 (fun e => hn2 e.symm)
  have hr5 := hr4.go hb7 (fun k hk e => (orow_ne hr4 ho13 (by decide)) (hk.trans (congrArg some e))) hl7 (fun _ h => h)
  obtain rfl := Zi hv5
  refine Zo Z Z Z (Za Z Z (Zn (Ze ?_)))
  replace h := bind_some h
  obtain ⟨x5, hx5, h⟩ := h
  replace h := bind_some h
  obtain ⟨x6, hx6, h⟩ := h
  have lz2 := ((lz1.trans hl6).trans hl7)
  refine cw_sub (E' := [(0, (Zw g 0)), (1, (Zv a_n)), (4, (Zw g1 0)), (5, (Zw g2 0)), (6, (Zv x4.1))]) ⟨Z, Z, Z, Z, Z, Zt⟩ (cw_drawC (g := g) (T := 97) 7 1 [none, none, none, none, none, none, some 0] [#[(.slice Ax a_xs.length cx), (Zv x4.2)], #[(.slice Ax a_xs.length cx), (Zv x6.2)]] [PEq (Zw g2 0), PEq (.slice A1 x2.Sides.length c1), PEq (Zv x4.1), PEq (Zw g 0), PEq (Zv x4.1), PEq (Zv x5), PV (RSlice RSpan) (Add g2 M1) x6.1] (by kernel_rfl) Z (by kernel_rfl) (by kernel_rfl) ho16 ⟨(PEq.monoY hm5 _), (PEq.monoY hm5 _), (PEq.monoY hm5 _), (PEq.monoY hm5 _), (PEq.monoY hm5 _), (PEq.monoY hm5 _), (PV.monoY hm5 _ _), Zt⟩ ⟨?_, ?_, ?_, ?_, ?_, ?_, ?_, Zt⟩ ?_)
  · exact fun w10 D hS1 hd1 => Zs (E' := [(5, (Zw g2 0))]) ⟨Z, Zt⟩ (Zp Z (Zf Z Z Tryd.underlying25 Z (Tryd.sizeOf23 _) Zb))
  ·
   intro w11 D hS2 hd2
   have ho28 := ho18.go hS2 (fun e => hn2 e.symm)
   exact Zs (E' := [(15, (Zw g2 0))]) ⟨dpE hd2 0 Z Z, Zt⟩ (Zp Z (ow_loadOwn1 Z Z Z ho28 (Tryd.isAgg23 _) Z Zb))
  · exact fun w12 D hS3 hd3 => Zs (E' := [(6, (Zv x4.1))]) ⟨Z, Zt⟩ (Zp Z (Zm Z Z Zb))
  · exact fun w13 D hS4 hd4 => Zs (E' := [(0, (Zw g 0))]) ⟨Z, Zt⟩ (Zp Z (Zm Z Z Zb))
  · exact fun w14 D hS5 hd5 => Zs (E' := [(6, (Zv x4.1))]) ⟨Z, Zt⟩ (Zp Z (Zm Z Z Zb))
  ·
   intro w15 D hS6 hd6
   have hl15 := leY hm5 hS6
   have hC15 := hC7.go hS6 (fun b e => Or.inr e)
   refine Zs (E' := [(19, (Zv x4.1))]) ⟨dpE hd6 4 Z Z, Zt⟩ (Zp Z (Zk Z Z Tryd.call39 (w_spec_FieldTop (hG.mono (lz2.trans hl15)) hC15.old hx5) fun v8 w16 hv8 => ?_))
   obtain ⟨hv8, hb10⟩ := hv8
   obtain rfl := Zi hv8
   exact ⟨hb10, Z⟩
  ·
   intro w17 D hS7 hd7
   obtain ⟨hS7, ho39⟩ := hS7
   have ho39 : Own w17 g 97 #[(.slice Ax a_xs.length cx), (Zv x4.2)] := ho39
   have hl17 := leY hm5 hS7
   have hC17 := hC7.go hS7 (fun b e => Or.inr e)
   refine Zs (E' := [(18, (Zw g 0)), (20, (Zv x5))]) ⟨dpE hd7 3 Z Z, dpE hd7 5 Z Z, Zt⟩ (Zp Z (Zk Z Z Tryd.call66 (w_spec_l20Set (hG.mono (lz2.trans hl17)) hC17.old (VRep.mono (lz2.trans hl17) hxs) ho39 hm5 hx6) fun v9 w18 hv9 => ?_))
   obtain ⟨⟨hv9, ho42⟩, hb11⟩ := hv9
   exact ⟨⟨⟨hS7.trans hb11, ho42⟩, hb11⟩, hv9⟩
  ·
   intro w19 D hS8 hd8
   have d12 : PV (RSlice RSpan) (Add g2 M1) x6.1 (D 6) w19 := dpA hd8 6 Z
   obtain ⟨hS8, ho45⟩ := hS8
   have ho45 : Own w19 g 97 #[(.slice Ax a_xs.length cx), (Zv x6.2)] := ho45
   have hl19 := leY hm5 hS8
   have hC19 := hC7.go hS8 (fun b e => Or.inr e)
   have ho46 := ho17.go hS8 (fun e => hn1 e.symm)
   have ho47 := ho18.go hS8 (fun e => hn2 e.symm)
   have hr17 := hr5.go hS8 (fun k hk e => (orow_ne hr5 ho16 (by decide)) (hk.trans (congrArg some e))) hl19 (fun _ h => h)
   generalize hq1 : (D 6) = v10 at d12
   refine lw_sub (E' := [(16, (.slice A1 x2.Sides.length c1)), (17, (Zv x4.1)), (21, v10), (0, (Zw g 0)), (1, (Zv a_n)), (4, (Zw g1 0)), (5, (Zw g2 0)), (6, (Zv x4.1))]) ⟨dpE hd8 1 Z Z, dpE hd8 2 Z Z, congrArg some hq1, Z, Z, Z, Z, Z, Zt⟩ ?_
   replace h := bind_some h
   obtain ⟨x7, hx7, h⟩ := h
   refine Zo Z Z Z (ow_indexRow (R := (RSlice RSpan)) Z Z Z hr17 Tryd.underlying23 (Tryd.sizeOf59 _) hx7 (lw_op0 Z Z (ow_storeElRow (X := (One g)) (R := (RSlice RSpan)) (S := (RSlice RSpan)) Z Z Z Z hr17 (orow_blk hr17 hx7) hx7 (FldSet.whole (RSlice RSpan)) (Tryd.sizeOf59 _) d12 (Nat.le_refl _) hC19 fun w20 ho48 hb12 hl20 hC20 => ?_)))
   have ho49 := ho45.go hb12 (fun e => (orow_ne hr17 ho45 (by decide)) (by rw [orow_blk hr17 hx7]; exact congrArg some e.symm))
   have ho50 := ho46.go hb12 (fun e => (orow_ne hr17 ho46 (by decide)) (by rw [orow_blk hr17 hx7]; exact congrArg some e.symm))
   have ho51 := ho47.go hb12 (fun e => (orow_ne hr17 ho47 (by decide)) (by rw [orow_blk hr17 hx7]; exact congrArg some e.symm))
   refine Zn (Ze (cw_seq (cw_seq (Zr (Zo Z Z Z (Zm Z Z (Zo Z Z Z (Zm Z Z ?_))))))))
   have lz4 := ((lz2.trans hl19).trans hl20)
   replace h := bind_some h
   obtain ⟨x8, hx8, h⟩ := h
   refine Zo Z Z Z (Zk Z Z Tryd.call83 (w_spec_l20Rd_odd (hG.mono lz4) hC20.old (VRep.mono lz4 hxs) ho49 hm5 hx8) fun v11 w21 hv11 => ?_)
   obtain ⟨⟨hv11, ho52⟩, hb13⟩ := hv11
   have hl21 := Le.of_bx (Add g2 M1) hb13 (fun b e => (by rw [show b = g from e]; exact hm5))
   have hC21 := hC20.go hb13 (fun b e => Or.inr e)
   have ho53 := ho50.go hb13 (fun e => hn1 e.symm)
   have ho54 := ho51.go hb13 (fun e => hn2 e.symm)
   have hr18 := ho48.go hb13 (fun k hk e => (orow_ne ho48 ho49 (by decide)) (hk.trans (congrArg some e))) hl21 (fun _ h => h)
   obtain ⟨bb2, hbb2, rfl⟩ := vbool_ex hv11
   refine Zn (Ze ?_)
   replace h := Zc h
   rcases h with ⟨hc2, h⟩ | ⟨hc2, h⟩
   ·
    obtain rfl := hbb2.trans hc2
    refine cw_true Z (cw_seq (Zr (Zo Z Z Z (Zm Z Z ?_))))
    replace h := bind_some h
    obtain ⟨x9, hx9, h⟩ := h
    refine Zo Z Z Z (Zk Z Z Tryd.call63 (w_spec_l20Rd_pick (hG.mono (lz4.trans hl21)) hC21.old (VRep.mono (lz4.trans hl21) hxs) ho52 hm5 hx9) fun v12 w22 hv12 => ?_)
    obtain ⟨⟨hv12, ho55⟩, hb14⟩ := hv12
    have hl22 := Le.of_bx (Add g2 M1) hb14 (fun b e => (by rw [show b = g from e]; exact hm5))
    have hC22 := hC21.go hb14 (fun b e => Or.inr e)
    have ho56 := ho53.go hb14 (fun e => hn1 e.symm)
    have ho57 := ho54.go hb14 (fun e => hn2 e.symm)
    have hr19 := hr18.go hb14 (fun k hk e => (orow_ne hr18 ho52 (by decide)) (hk.trans (congrArg some e))) hl22 (fun _ h => h)
    obtain rfl := Zi hv12
    refine Zn (Ze (cw_block (cw_seq (Zr (Zo Z Z Z (ow_eqlI Z Z Z fun bb3 hbb3 => Zo Z Z Z (Za Z Z (Zn (Ze ?_)))))))))
    replace h := Zc h
    rcases h with ⟨hc3, h⟩ | ⟨hc3, h⟩
    ·
     obtain rfl := hbb3.trans hc3
     refine cw_true Z (Zr (Zo Z Z Z (Zf Z Z Tryd.underlying25 Z (Tryd.sizeOf23 _) (Zo Z Z Z (ow_loadOwn1 Z Z Z ho57 (Tryd.isAgg23 _) Z ?_)))))
     have hw1 := hr19.freezeDel
     have hC23 := hr19.cxDel hC22 hX hO
     have hm9 : (Del (.slice A1 x2.Sides.length c1) (Add g2 M1)) g1 := ⟨hm6, fun e => (orow_ne hr19 ho56 (by decide)) e⟩
     have hm10 : (Del (.slice A1 x2.Sides.length c1) (Add g2 M1)) g2 := ⟨hm7, fun e => (orow_ne hr19 ho57 (by decide)) e⟩
     replace h := bind_some h
     obtain ⟨y1, hy1, h⟩ := h
     refine Zo Z Z Z (ow_sliceFrom (R := (RSlice RSpan)) Z Z Z hw1 Tryd.underlying23 (Tryd.sizeOf59 _) (dropF_some hy1).2 fun v13 hv13 => ?_)
     rw [← (dropF_some hy1).1] at hv13
     refine Zo Z Z Z (Zf Z Z Tryd.underlying25 Z (Tryd.sizeOf23 _) ?_)
     obtain ⟨A2, c2, rfl, -⟩ := vslice_shape hv13
     refine lw_op0 Z Z (ow_store (X := (One g)) (us := [(.slice A2 y1.length c2)]) (cs' := #[(.slice A2 y1.length c2)]) Z Z Z Z ho57 (Tryd.sizeOf23 _) Z Z Z Z hm10 (.inl hg4) Z hC23 fun w23 ho58 hb15 hl24 hC24 => ?_)
     have ho59 := ho55.go hb15 (fun e => hn2 e)
     have ho60 := ho56.go hb15 (fun e => hn3 e)
     refine Zn (ew_blockN (Ze (cw_seq (Zr (Zo Z Z Z (ow_loadOwnA Z Z Z ho58 (Tryd.isAgg25 _) (Tryd.sizeOf25 _) Z (lw_op0 Z Z (ow_store (X := (One g)) (us := [(.slice A2 y1.length c2)]) (cs' := #[(.slice A2 y1.length c2)]) Z Z Z Z ho60 (Tryd.sizeOf25 _) Z Z Z Z hm9 (.inl hg2) Z hC24 fun w24 ho61 hb16 hl25 hC25 => ?_))))))))
     have ho62 := ho59.go hb16 (fun e => hn1 e)
     refine Zn (Ze (Zy ?_))
     have hw3 : VRep RBox w24 (Del (.slice A1 x2.Sides.length c1) (Add g2 M1)) ({ Sides := y1 } : Box) (.agg #[(.slice A2 y1.length c2)]) := shut_Box (VRep.mono (hl24.trans hl25) hv13)
     obtain rfl := sj h
     exact ew_ret (res1 Z (.cell Z (own_loadVarA ho61 (Tryd.isAgg25 _) (Tryd.sizeOf25 _) Z))) ⟨_, Z, ⟨(hw3.mono hC25.back), ho62⟩, hC25.bx⟩
    ·
     obtain rfl := hbb3.trans hc3
     refine Zu Z (cw_seq (Zr (Zo Z Z Z (ow_eqlI Z Z Z fun bb4 hbb4 => Zo Z Z Z (Za Z Z (Zn (Ze ?_)))))))
     replace h := Zc h
     rcases h with ⟨hc4, h⟩ | ⟨hc4, h⟩
     ·
      obtain rfl := hbb4.trans hc4
      refine cw_true Z (Zr (Zo Z Z Z (Zf Z Z Tryd.underlying25 Z (Tryd.sizeOf23 _) (Zo Z Z Z (ow_loadOwn1 Z Z Z ho57 (Tryd.isAgg23 _) Z (Zo Z Z Z (ow_build (v := .agg #[(Zv 0), (Zv 8)]) Z Z (by kernel_rfl) ?_)))))))
      have hw4 : VRep RSpan w22 (Add g2 M1) ({ Lo := 0, Hi := 8 } : Span) (.agg #[(Zv 0), (Zv 8)]) := shut_Span
      refine Zo Z Z Z (ow_buildSlice (R := RSpan) (xs := [({ Lo := 0, Hi := 8 } : Span)]) (cs := #[(Zv 0), (Zv 8)]) (e := 69) Z Z (by kernel_rfl) Z Z ⟨_, _, Z, hw4.cells, Z⟩ hC22 fun p1 w25 hw5 hb17 hl26 hC26 => ?_)
      have ho64 := ho55.no hb17
      have ho65 := ho56.no hb17
      have ho66 := ho57.no hb17
      have hr20 := hr19.no hb17
      replace h := bind_some h
      obtain ⟨x10, hx10, h⟩ := h
      refine Zo Z Z Z (ow_indexRow (R := (RSlice RSpan)) Z Z Z hr20 Tryd.underlying23 (Tryd.sizeOf59 _) hx10 (lw_op0 Z Z (ow_storeElRow (X := (One g)) (R := (RSlice RSpan)) (S := (RSlice RSpan)) Z Z Z Z hr20 (orow_blk hr20 hx10) hx10 (FldSet.whole (RSlice RSpan)) (Tryd.sizeOf59 _) hw5 (Nat.le_refl _) hC26 fun w26 ho67 hb18 hl27 hC27 => ?_)))
      have ho68 := ho64.go hb18 (fun e => (orow_ne hr20 ho64 (by decide)) (by rw [orow_blk hr20 hx10]; exact congrArg some e.symm))
      have ho69 := ho65.go hb18 (fun e => (orow_ne hr20 ho65 (by decide)) (by rw [orow_blk hr20 hx10]; exact congrArg some e.symm))
      have ho70 := ho66.go hb18 (fun e => (orow_ne hr20 ho66 (by decide)) (by rw [orow_blk hr20 hx10]; exact congrArg some e.symm))
      refine Zn (ew_blockN (Ze (cw_seq (Zr (Zo Z Z Z (ow_loadOwnA Z Z Z ho70 (Tryd.isAgg25 _) (Tryd.sizeOf25 _) Z ?_))))))
      have hw6 := ho67.freezeDel
      have hC28 := ho67.cxDel hC27 hX hO
      have hm12 : (Del (.slice A1 x2.Sides.length c1) (Add g2 M1)) g1 := ⟨hm6, fun e => (orow_ne ho67 ho69 (by decide)) e⟩
      refine lw_op0 Z Z (ow_store (X := (One g)) (us := [(.slice A1 x2.Sides.length c1)]) (cs' := #[(.slice A1 x2.Sides.length c1)]) Z Z Z Z ho69 (Tryd.sizeOf25 _) Z Z Z Z hm12 (.inl hg2) Z hC28 fun w27 ho71 hb19 hl29 hC29 => ?_)
      have ho72 := ho68.go hb19 (fun e => hn1 e)
      refine Zn (Ze (Zy ?_))
      have hw8 : VRep RBox w27 (Del (.slice A1 x2.Sides.length c1) (Add g2 M1)) ({ Sides := (List.set (List.set x2.Sides (x4.1 : Int).toNat x6.1) (3 : Int).toNat [({ Lo := 0, Hi := 8 } : Span)]) } : Box) (.agg #[(.slice A1 x2.Sides.length c1)]) := shut_Box (VRep.mono hl29 hw6)
      obtain rfl := sj h
      exact ew_ret (res1 Z (.cell Z (own_loadVarA ho71 (Tryd.isAgg25 _) (Tryd.sizeOf25 _) Z))) ⟨_, Z, ⟨(hw8.mono hC29.back), ho72⟩, hC29.bx⟩
     ·
      obtain rfl := hbb4.trans hc4
      refine Zu Z (Zr (Zo Z Z Z (Zf Z Z Tryd.underlying25 Z (Tryd.sizeOf23 _) (Zo Z Z Z (ow_loadOwn1 Z Z Z ho57 (Tryd.isAgg23 _) Z (Zo Z Z Z (ow_buildSlice0I (R := RSpan) (e := 69) Z (by kernel_rfl) hC22 fun p2 w28 hw9 hb20 hl30 hC30 => ?_)))))))
      have ho74 := ho55.no hb20
      have ho75 := ho56.no hb20
      have ho76 := ho57.no hb20
      have hr21 := hr19.no hb20
      refine Zo Z Z Z (ow_buildSlice (R := (RSlice RSpan)) (xs := [([] : List Span)]) (cs := #[(.slice (some p2) 0 0)]) (e := 59) Z Z (by kernel_rfl) Z Z ⟨_, _, Z, hw9.cells, Z⟩ hC30 fun p3 w29 hw10 hb21 hl31 hC31 => ?_)
      have ho77 := ho74.no hb21
      have ho78 := ho75.no hb21
      have ho79 := ho76.no hb21
      have hr22 := hr21.no hb21
      replace h := bind_some h
      obtain ⟨z1, hz1, h⟩ := h
      refine Zo Z Z Z (ow_append (R := (RSlice RSpan)) Z Z Z Z Tryd.underlying23 hi59 hz59 hs59 hy59 Z Z Z Z hr22 hw10 hz1 hC31 fun v14 w30 M2 hr23 hb22 hl32 hC32 hM1 hat1 => ?_)
      have ho80 := ho77.go hb22 (fun e => (orow_ne hr22 ho77 (by decide)) e)
      have ho81 := ho78.go hb22 (fun e => (orow_ne hr22 ho78 (by decide)) e)
      have hm15 := hM1 _ hm6
      have ho82 := ho79.go hb22 (fun e => (orow_ne hr22 ho79 (by decide)) e)
      have hm16 := hM1 _ hm7
      refine Zo Z Z Z (Zf Z Z Tryd.underlying25 Z (Tryd.sizeOf23 _) ?_)
      obtain ⟨A3, c3, rfl⟩ := hr23.len
      refine lw_op0 Z Z (ow_store (X := (One g)) (us := [(.slice A3 z1.length c3)]) (cs' := #[(.slice A3 z1.length c3)]) Z Z Z Z ho82 (Tryd.sizeOf23 _) Z Z Z Z hm16 (.inl hg4) Z hC32 fun w31 ho83 hb23 hl33 hC33 => ?_)
      have ho84 := ho80.go hb23 (fun e => hn2 e)
      have ho85 := ho81.go hb23 (fun e => hn3 e)
      have hr24 := hr23.go hb23 (fun k hk e => (orow_ne hr23 ho82 (by decide)) (hk.trans (congrArg some e))) hl33 (fun _ h => h)
      refine Zn (ew_blockN (Ze (cw_seq (Zr (Zo Z Z Z (ow_loadOwnA Z Z Z ho83 (Tryd.isAgg25 _) (Tryd.sizeOf25 _) Z ?_))))))
      have hw11 := hr24.freezeDel
      have hC34 := hr24.cxDel hC33 hX hO
      have hm18 : (Del (.slice A3 z1.length c3) M2) g1 := ⟨hm15, fun e => (orow_ne hr24 ho85 (by decide)) e⟩
      refine lw_op0 Z Z (ow_store (X := (One g)) (us := [(.slice A3 z1.length c3)]) (cs' := #[(.slice A3 z1.length c3)]) Z Z Z Z ho85 (Tryd.sizeOf25 _) Z Z Z Z hm18 (.inl hg2) Z hC34 fun w32 ho86 hb24 hl35 hC35 => ?_)
      have ho87 := ho84.go hb24 (fun e => hn1 e)
      refine Zn (Ze (Zy ?_))
      have hw13 : VRep RBox w32 (Del (.slice A3 z1.length c3) M2) ({ Sides := z1 } : Box) (.agg #[(.slice A3 z1.length c3)]) := shut_Box (VRep.mono hl35 hw11)
      obtain rfl := sj h
      exact ew_ret (res1 Z (.cell Z (own_loadVarA ho86 (Tryd.isAgg25 _) (Tryd.sizeOf25 _) Z))) ⟨_, Z, ⟨(hw13.mono hC35.back), ho87⟩, hC35.bx⟩
   ·
    obtain rfl := hbb2.trans hc2
    refine Zu Z (cw_skip (Ze (cw_seq (Zr (Zo Z Z Z (ow_loadOwnA Z Z Z ho54 (Tryd.isAgg25 _) (Tryd.sizeOf25 _) Z ?_))))))
    have hw14 := hr18.freezeDel
    have hC36 := hr18.cxDel hC21 hX hO
    have hm21 : (Del (.slice A1 x2.Sides.length c1) (Add g2 M1)) g1 := ⟨hm6, fun e => (orow_ne hr18 ho53 (by decide)) e⟩
    refine lw_op0 Z Z (ow_store (X := (One g)) (us := [(.slice A1 x2.Sides.length c1)]) (cs' := #[(.slice A1 x2.Sides.length c1)]) Z Z Z Z ho53 (Tryd.sizeOf25 _) Z Z Z Z hm21 (.inl hg2) Z hC36 fun w33 ho89 hb25 hl37 hC37 => ?_)
    have ho90 := ho52.go hb25 (fun e => hn1 e)
    refine Zn (Ze (Zy ?_))
    have hw16 : VRep RBox w33 (Del (.slice A1 x2.Sides.length c1) (Add g2 M1)) ({ Sides := (List.set x2.Sides (x4.1 : Int).toNat x6.1) } : Box) (.agg #[(.slice A1 x2.Sides.length c1)]) := shut_Box (VRep.mono hl37 hw14)
    obtain rfl := sj h
    exact ew_ret (res1 Z (.cell Z (own_loadVarA ho89 (Tryd.isAgg25 _) (Tryd.sizeOf25 _) Z))) ⟨_, Z, ⟨(hw16.mono hC37.back), ho90⟩, hC37.bx⟩
 ·
  obtain rfl := hbb1.trans hc1
  refine Zu Z (cw_skip (Ze (cw_seq (cw_seq (Zr (Zo Z Z Z (Zm Z Z (Zo Z Z Z (Zm Z Z ?_)))))))))
  replace h := bind_some h
  obtain ⟨x11, hx11, h⟩ := h
  refine Zo Z Z Z (Zk Z Z Tryd.call83 (w_spec_l20Rd_odd (hG.mono (lz1.trans hl6)) hC6.old (VRep.mono (lz1.trans hl6) hxs) ho13 hm5 hx11) fun v15 w34 hv15 => ?_)
  obtain ⟨⟨hv15, ho92⟩, hb26⟩ := hv15
  have hl38 := Le.of_bx (Add g2 M1) hb26 (fun b e => (by rw [show b = g from e]; exact hm5))
  have hC38 := hC6.go hb26 (fun b e => Or.inr e)
  have ho93 := ho14.go hb26 (fun e => hn1 e.symm)
  have ho94 := ho15.go hb26 (fun e => hn2 e.symm)
  have hr25 := hr4.go hb26 (fun k hk e => (orow_ne hr4 ho13 (by decide)) (hk.trans (congrArg some e))) hl38 (fun _ h => h)
  obtain ⟨bb5, hbb5, rfl⟩ := vbool_ex hv15
  refine Zn (Ze ?_)
  replace h := Zc h
  rcases h with ⟨hc5, h⟩ | ⟨hc5, h⟩
  ·
   obtain rfl := hbb5.trans hc5
   refine cw_true Z (cw_seq (Zr (Zo Z Z Z (Zm Z Z ?_))))
   have lz5 := ((lz1.trans hl6).trans hl38)
   replace h := bind_some h
   obtain ⟨x12, hx12, h⟩ := h
   refine Zo Z Z Z (Zk Z Z Tryd.call63 (w_spec_l20Rd_pick (hG.mono lz5) hC38.old (VRep.mono lz5 hxs) ho92 hm5 hx12) fun v16 w35 hv16 => ?_)
   obtain ⟨⟨hv16, ho95⟩, hb27⟩ := hv16
   have hl39 := Le.of_bx (Add g2 M1) hb27 (fun b e => (by rw [show b = g from e]; exact hm5))
   have hC39 := hC38.go hb27 (fun b e => Or.inr e)
   have ho96 := ho93.go hb27 (fun e => hn1 e.symm)
   have ho97 := ho94.go hb27 (fun e => hn2 e.symm)
   have hr26 := hr25.go hb27 (fun k hk e => (orow_ne hr25 ho92 (by decide)) (hk.trans (congrArg some e))) hl39 (fun _ h => h)
   obtain rfl := Zi hv16
   refine Zn (Ze (cw_block (cw_seq (Zr (Zo Z Z Z (ow_eqlI Z Z Z fun bb6 hbb6 => Zo Z Z Z (Za Z Z (Zn (Ze ?_)))))))))
   replace h := Zc h
   rcases h with ⟨hc6, h⟩ | ⟨hc6, h⟩
   ·
    obtain rfl := hbb6.trans hc6
    refine cw_true Z (Zr (Zo Z Z Z (Zf Z Z Tryd.underlying25 Z (Tryd.sizeOf23 _) (Zo Z Z Z (ow_loadOwn1 Z Z Z ho97 (Tryd.isAgg23 _) Z ?_)))))
    have hw17 := hr26.freezeDel
    have hC40 := hr26.cxDel hC39 hX hO
    have hm24 : (Del (.slice A1 x2.Sides.length c1) (Add g2 M1)) g1 := ⟨hm6, fun e => (orow_ne hr26 ho96 (by decide)) e⟩
    have hm25 : (Del (.slice A1 x2.Sides.length c1) (Add g2 M1)) g2 := ⟨hm7, fun e => (orow_ne hr26 ho97 (by decide)) e⟩
    replace h := bind_some h
    obtain ⟨y2, hy2, h⟩ := h
    refine Zo Z Z Z (ow_sliceFrom (R := (RSlice RSpan)) Z Z Z hw17 Tryd.underlying23 (Tryd.sizeOf59 _) (dropF_some hy2).2 fun v17 hv17 => ?_)
    rw [← (dropF_some hy2).1] at hv17
    refine Zo Z Z Z (Zf Z Z Tryd.underlying25 Z (Tryd.sizeOf23 _) ?_)
    obtain ⟨A4, c4, rfl, -⟩ := vslice_shape hv17
    refine lw_op0 Z Z (ow_store (X := (One g)) (us := [(.slice A4 y2.length c4)]) (cs' := #[(.slice A4 y2.length c4)]) Z Z Z Z ho97 (Tryd.sizeOf23 _) Z Z Z Z hm25 (.inl hg4) Z hC40 fun w36 ho98 hb28 hl41 hC41 => ?_)
    have ho99 := ho95.go hb28 (fun e => hn2 e)
    have ho100 := ho96.go hb28 (fun e => hn3 e)
    refine Zn (ew_blockN (Ze (cw_seq (Zr (Zo Z Z Z (ow_loadOwnA Z Z Z ho98 (Tryd.isAgg25 _) (Tryd.sizeOf25 _) Z (lw_op0 Z Z (ow_store (X := (One g)) (us := [(.slice A4 y2.length c4)]) (cs' := #[(.slice A4 y2.length c4)]) Z Z Z Z ho100 (Tryd.sizeOf25 _) Z Z Z Z hm24 (.inl hg2) Z hC41 fun w37 ho101 hb29 hl42 hC42 => ?_))))))))
    have ho102 := ho99.go hb29 (fun e => hn1 e)
    refine Zn (Ze (Zy ?_))
    have hw19 : VRep RBox w37 (Del (.slice A1 x2.Sides.length c1) (Add g2 M1)) ({ Sides := y2 } : Box) (.agg #[(.slice A4 y2.length c4)]) := shut_Box (VRep.mono (hl41.trans hl42) hv17)
    obtain rfl := sj h
    exact ew_ret (res1 Z (.cell Z (own_loadVarA ho101 (Tryd.isAgg25 _) (Tryd.sizeOf25 _) Z))) ⟨_, Z, ⟨(hw19.mono hC42.back), ho102⟩, hC42.bx⟩
   ·
    obtain rfl := hbb6.trans hc6
    refine Zu Z (cw_seq (Zr (Zo Z Z Z (ow_eqlI Z Z Z fun bb7 hbb7 => Zo Z Z Z (Za Z Z (Zn (Ze ?_)))))))
    replace h := Zc h
    rcases h with ⟨hc7, h⟩ | ⟨hc7, h⟩
    ·
     obtain rfl := hbb7.trans hc7
     refine cw_true Z (Zr (Zo Z Z Z (Zf Z Z Tryd.underlying25 Z (Tryd.sizeOf23 _) (Zo Z Z Z (ow_loadOwn1 Z Z Z ho97 (Tryd.isAgg23 _) Z (Zo Z Z Z (ow_build (v := .agg #[(Zv 0), (Zv 8)]) Z Z (by kernel_rfl) ?_)))))))
     have hw20 : VRep RSpan w35 (Add g2 M1) ({ Lo := 0, Hi := 8 } : Span) (.agg #[(Zv 0), (Zv 8)]) := shut_Span
     refine Zo Z Z Z (ow_buildSlice (R := RSpan) (xs := [({ Lo := 0, Hi := 8 } : Span)]) (cs := #[(Zv 0), (Zv 8)]) (e := 69) Z Z (by kernel_rfl) Z Z ⟨_, _, Z, hw20.cells, Z⟩ hC39 fun p4 w38 hw21 hb30 hl43 hC43 => ?_)
     have ho104 := ho95.no hb30
     have ho105 := ho96.no hb30
     have ho106 := ho97.no hb30
     have hr27 := hr26.no hb30
     replace h := bind_some h
     obtain ⟨x13, hx13, h⟩ := h
     refine Zo Z Z Z (ow_indexRow (R := (RSlice RSpan)) Z Z Z hr27 Tryd.underlying23 (Tryd.sizeOf59 _) hx13 (lw_op0 Z Z (ow_storeElRow (X := (One g)) (R := (RSlice RSpan)) (S := (RSlice RSpan)) Z Z Z Z hr27 (orow_blk hr27 hx13) hx13 (FldSet.whole (RSlice RSpan)) (Tryd.sizeOf59 _) hw21 (Nat.le_refl _) hC43 fun w39 ho107 hb31 hl44 hC44 => ?_)))
     have ho108 := ho104.go hb31 (fun e => (orow_ne hr27 ho104 (by decide)) (by rw [orow_blk hr27 hx13]; exact congrArg some e.symm))
     have ho109 := ho105.go hb31 (fun e => (orow_ne hr27 ho105 (by decide)) (by rw [orow_blk hr27 hx13]; exact congrArg some e.symm))
     have ho110 := ho106.go hb31 (fun e => (orow_ne hr27 ho106 (by decide)) (by rw [orow_blk hr27 hx13]; exact congrArg some e.symm))
     refine Zn (ew_blockN (Ze (cw_seq (Zr (Zo Z Z Z (ow_loadOwnA Z Z Z ho110 (Tryd.isAgg25 _) (Tryd.sizeOf25 _) Z ?_))))))
     have hw22 := ho107.freezeDel
     have hC45 := ho107.cxDel hC44 hX hO
     have hm27 : (Del (.slice A1 x2.Sides.length c1) (Add g2 M1)) g1 := ⟨hm6, fun e => (orow_ne ho107 ho109 (by decide)) e⟩
     refine lw_op0 Z Z (ow_store (X := (One g)) (us := [(.slice A1 x2.Sides.length c1)]) (cs' := #[(.slice A1 x2.Sides.length c1)]) Z Z Z Z ho109 (Tryd.sizeOf25 _) Z Z Z Z hm27 (.inl hg2) Z hC45 fun w40 ho111 hb32 hl46 hC46 => ?_)
     have ho112 := ho108.go hb32 (fun e => hn1 e)
     refine Zn (Ze (Zy ?_))
     have hw24 : VRep RBox w40 (Del (.slice A1 x2.Sides.length c1) (Add g2 M1)) ({ Sides := (List.set x2.Sides (3 : Int).toNat [({ Lo := 0, Hi := 8 } : Span)]) } : Box) (.agg #[(.slice A1 x2.Sides.length c1)]) := shut_Box (VRep.mono hl46 hw22)
     obtain rfl := sj h
     exact ew_ret (res1 Z (.cell Z (own_loadVarA ho111 (Tryd.isAgg25 _) (Tryd.sizeOf25 _) Z))) ⟨_, Z, ⟨(hw24.mono hC46.back), ho112⟩, hC46.bx⟩
    ·
     obtain rfl := hbb7.trans hc7
     refine Zu Z (Zr (Zo Z Z Z (Zf Z Z Tryd.underlying25 Z (Tryd.sizeOf23 _) (Zo Z Z Z (ow_loadOwn1 Z Z Z ho97 (Tryd.isAgg23 _) Z (Zo Z Z Z (ow_buildSlice0I (R := RSpan) (e := 69) Z (by kernel_rfl) hC39 fun p5 w41 hw25 hb33 hl47 hC47 => ?_)))))))
     have ho114 := ho95.no hb33
     have ho115 := ho96.no hb33
     have ho116 := ho97.no hb33
     have hr28 := hr26.no hb33
     refine Zo Z Z Z (ow_buildSlice (R := (RSlice RSpan)) (xs := [([] : List Span)]) (cs := #[(.slice (some p5) 0 0)]) (e := 59) Z Z (by kernel_rfl) Z Z ⟨_, _, Z, hw25.cells, Z⟩ hC47 fun p6 w42 hw26 hb34 hl48 hC48 => ?_)
     have ho117 := ho114.no hb34
     have ho118 := ho115.no hb34
     have ho119 := ho116.no hb34
     have hr29 := hr28.no hb34
     replace h := bind_some h
     obtain ⟨z2, hz2, h⟩ := h
     refine Zo Z Z Z (ow_append (R := (RSlice RSpan)) Z Z Z Z Tryd.underlying23 hi59 hz59 hs59 hy59 Z Z Z Z hr29 hw26 hz2 hC48 fun v18 w43 M3 hr30 hb35 hl49 hC49 hM2 hat2 => ?_)
     have ho120 := ho117.go hb35 (fun e => (orow_ne hr29 ho117 (by decide)) e)
     have ho121 := ho118.go hb35 (fun e => (orow_ne hr29 ho118 (by decide)) e)
     have hm30 := hM2 _ hm6
     have ho122 := ho119.go hb35 (fun e => (orow_ne hr29 ho119 (by decide)) e)
     have hm31 := hM2 _ hm7
     refine Zo Z Z Z (Zf Z Z Tryd.underlying25 Z (Tryd.sizeOf23 _) ?_)
     obtain ⟨A5, c5, rfl⟩ := hr30.len
     refine lw_op0 Z Z (ow_store (X := (One g)) (us := [(.slice A5 z2.length c5)]) (cs' := #[(.slice A5 z2.length c5)]) Z Z Z Z ho122 (Tryd.sizeOf23 _) Z Z Z Z hm31 (.inl hg4) Z hC49 fun w44 ho123 hb36 hl50 hC50 => ?_)
     have ho124 := ho120.go hb36 (fun e => hn2 e)
     have ho125 := ho121.go hb36 (fun e => hn3 e)
     have hr31 := hr30.go hb36 (fun k hk e => (orow_ne hr30 ho122 (by decide)) (hk.trans (congrArg some e))) hl50 (fun _ h => h)
     refine Zn (ew_blockN (Ze (cw_seq (Zr (Zo Z Z Z (ow_loadOwnA Z Z Z ho123 (Tryd.isAgg25 _) (Tryd.sizeOf25 _) Z ?_))))))
     have hw27 := hr31.freezeDel
     have hC51 := hr31.cxDel hC50 hX hO
     have hm33 : (Del (.slice A5 z2.length c5) M3) g1 := ⟨hm30, fun e => (orow_ne hr31 ho125 (by decide)) e⟩
     refine lw_op0 Z Z (ow_store (X := (One g)) (us := [(.slice A5 z2.length c5)]) (cs' := #[(.slice A5 z2.length c5)]) Z Z Z Z ho125 (Tryd.sizeOf25 _) Z Z Z Z hm33 (.inl hg2) Z hC51 fun w45 ho126 hb37 hl52 hC52 => ?_)
     have ho127 := ho124.go hb37 (fun e => hn1 e)
     refine Zn (Ze (Zy ?_))
     have hw29 : VRep RBox w45 (Del (.slice A5 z2.length c5) M3) ({ Sides := z2 } : Box) (.agg #[(.slice A5 z2.length c5)]) := shut_Box (VRep.mono hl52 hw27)
     obtain rfl := sj h
     exact ew_ret (res1 Z (.cell Z (own_loadVarA ho126 (Tryd.isAgg25 _) (Tryd.sizeOf25 _) Z))) ⟨_, Z, ⟨(hw29.mono hC52.back), ho127⟩, hC52.bx⟩
  ·
   obtain rfl := hbb5.trans hc5
   refine Zu Z (cw_skip (Ze (cw_seq (Zr (Zo Z Z Z (ow_loadOwnA Z Z Z ho94 (Tryd.isAgg25 _) (Tryd.sizeOf25 _) Z ?_))))))
   have hw30 := hr25.freezeDel
   have hC53 := hr25.cxDel hC38 hX hO
   have hm36 : (Del (.slice A1 x2.Sides.length c1) (Add g2 M1)) g1 := ⟨hm6, fun e => (orow_ne hr25 ho93 (by decide)) e⟩
   refine lw_op0 Z Z (ow_store (X := (One g)) (us := [(.slice A1 x2.Sides.length c1)]) (cs' := #[(.slice A1 x2.Sides.length c1)]) Z Z Z Z ho93 (Tryd.sizeOf25 _) Z Z Z Z hm36 (.inl hg2) Z hC53 fun w46 ho129 hb38 hl54 hC54 => ?_)
   have ho130 := ho92.go hb38 (fun e => hn1 e)
   refine Zn (Ze (Zy ?_))
   have hw32 : VRep RBox w46 (Del (.slice A1 x2.Sides.length c1) (Add g2 M1)) ({ Sides := x2.Sides } : Box) (.agg #[(.slice A1 x2.Sides.length c1)]) := shut_Box (VRep.mono hl54 hw30)
   obtain rfl := sj h
   exact ew_ret (res1 Z (.cell Z (own_loadVarA ho129 (Tryd.isAgg25 _) (Tryd.sizeOf25 _) Z))) ⟨_, Z, ⟨(hw32.mono hC54.back), ho130⟩, hC54.bx⟩

theorem w_spec_BoxMeet {w : World} {M : Nat → Prop} (hG : ARep (RArr 4 RShape) w M shapes ⟨0, 0, none⟩) (hO : ∀ b, M b → b < w.heap.size) {v0p : Value} {a_a : Box} (h0 : VRep RBox w M a_a v0p) {v1p : Value} {a_b : Box} (h1 : VRep RBox w M a_b v1p) {r : Box} (h : F.spec_BoxMeet a_a a_b = some r) :
  Calls Tryd.prog 64 [v0p, v1p].toArray w fun e w' => ∃ v, e = .returned v ∧ VRep RBox w' M r v ∧ BX No w w' := by
 have hC : Cx No w M w M := Cx.start hO (fun _ e => e.elim)
 refine walk (N := 28) Tryd.func64 Z Tryd.ntmps64 Z (cw_seq (Zr ?_))
 obtain ⟨A1, c1, rfl, hw1⟩ := open_Box h0
 refine Zo Z Z Z (ow_boxOwn Z Z hC fun g1 w1 hg1 hg2 ho1 hb1 hl1 hC1 => ?_)
 have hm1 : (Add g1 M) g1 := .inl Z
 obtain ⟨A2, c2, rfl, hw2⟩ := open_Box h1
 refine Zo Z Z Z (ow_boxOwn Z Z hC1 fun g2 w2 hg3 hg4 ho2 hb2 hl2 hC2 => ?_)
 have hn1 := Nat.ne_of_lt (Nat.lt_of_lt_of_le ho1.lt hg3)
 have ho3 := ho1.no hb2
 have hm2 : (Add g2 (Add g1 M)) g1 := .inr hm1
 have hm3 : (Add g2 (Add g1 M)) g2 := .inl Z
 refine Zo Z Z Z (ow_alloc Z (Tryd.zeroValue25 _) hC2 fun g3 w3 hg5 hg6 ho4 hb3 hl3 hC3 => ?_)
 have hn2 := Nat.ne_of_lt (Nat.lt_of_lt_of_le ho3.lt hg5)
 have ho5 := ho3.no hb3
 have hm4 : (Add g3 (Add g2 (Add g1 M))) g1 := .inr hm2
 have hn3 := Nat.ne_of_lt (Nat.lt_of_lt_of_le ho2.lt hg5)
 have ho6 := ho2.no hb3
 have hm5 : (Add g3 (Add g2 (Add g1 M))) g2 := .inr hm3
 have hm6 : (Add g3 (Add g2 (Add g1 M))) g3 := .inl Z
 refine Zn (Ze (cw_seq (Zr (Zo Z Z Z (ow_loadOwnA Z Z Z ho5 (Tryd.isAgg25 _) (Tryd.sizeOf25 _) Z ?_)))))
 have lz1 := ((hl1.trans hl2).trans hl3)
 have hw3 : VRep RBox w3 (Add g3 (Add g2 (Add g1 M))) ({ Sides := a_a.Sides } : Box) (.agg #[(.slice A1 a_a.Sides.length c1)]) := shut_Box (VRep.mono lz1 hw1)
 replace h := bind_some h
 obtain ⟨x1, hx1, h⟩ := h
 refine Zo Z Z Z (Zk Z Z Tryd.call36 (w_spec_l1OwnBox (hG.mono lz1) hC3.old hw3 hx1) fun v1 w4 hv1 => ?_)
 obtain ⟨hv1, hb4⟩ := hv1
 have hl4 := Le.no (Add g3 (Add g2 (Add g1 M))) hb4
 have hC4 := hC3.no hb4
 have ho7 := ho5.no hb4
 have ho8 := ho6.no hb4
 have ho9 := ho4.no hb4
 obtain ⟨A3, c3, rfl, hw4⟩ := open_Box hv1
 refine lw_op0 Z Z (ow_store (X := No) (us := [(.slice A3 x1.Sides.length c3)]) (cs' := #[(.slice A3 x1.Sides.length c3)]) Z Z Z Z ho7 (Tryd.sizeOf25 _) Z Z Z Z hm4 (.inl hg2) Z hC4 fun w5 ho10 hb5 hl5 hC5 => ?_)
 have ho11 := ho8.go hb5 (fun e => hn1 e.symm)
 have ho12 := ho9.go hb5 (fun e => hn2 e.symm)
 refine Zn (Ze (cw_seq (Zr (Zo Z Z Z (ow_loadOwnA Z Z Z ho11 (Tryd.isAgg25 _) (Tryd.sizeOf25 _) Z ?_)))))
 have lz2 := ((lz1.trans hl4).trans hl5)
 have hw5 : VRep RBox w5 (Add g3 (Add g2 (Add g1 M))) ({ Sides := a_b.Sides } : Box) (.agg #[(.slice A2 a_b.Sides.length c2)]) := shut_Box (VRep.mono lz2 hw2)
 replace h := bind_some h
 obtain ⟨x2, hx2, h⟩ := h
 refine Zo Z Z Z (Zk Z Z Tryd.call36 (w_spec_l1OwnBox (hG.mono lz2) hC5.old hw5 hx2) fun v2 w6 hv2 => ?_)
 obtain ⟨hv2, hb6⟩ := hv2
 have hl6 := Le.no (Add g3 (Add g2 (Add g1 M))) hb6
 have hC6 := hC5.no hb6
 have ho13 := ho10.no hb6
 have ho14 := ho11.no hb6
 have ho15 := ho12.no hb6
 obtain ⟨A4, c4, rfl, hw6⟩ := open_Box hv2
 refine lw_op0 Z Z (ow_store (X := No) (us := [(.slice A4 x2.Sides.length c4)]) (cs' := #[(.slice A4 x2.Sides.length c4)]) Z Z Z Z ho14 (Tryd.sizeOf25 _) Z Z Z Z hm5 (.inl hg4) Z hC6 fun w7 ho16 hb7 hl7 hC7 => ?_)
 have ho17 := ho13.go hb7 (fun e => hn1 e)
 have ho18 := ho15.go hb7 (fun e => hn3 e.symm)
 refine Zn (Ze (cw_seq (cw_seq (Zr (Zo Z Z Z (ow_loadOwnA Z Z Z ho17 (Tryd.isAgg25 _) (Tryd.sizeOf25 _) Z ?_))))))
 have lz3 := ((hl5.trans hl6).trans hl7)
 have hw7 : VRep RBox w7 (Add g3 (Add g2 (Add g1 M))) ({ Sides := x1.Sides } : Box) (.agg #[(.slice A3 x1.Sides.length c3)]) := shut_Box (VRep.mono lz3 hw4)
 replace h := bind_some h
 obtain ⟨x3, hx3, h⟩ := h
 have lz4 := ((lz2.trans hl6).trans hl7)
 refine Zo Z Z Z (Zk Z Z Tryd.call12 (w_spec_BoxValid (hG.mono lz4) hC7.old hw7 hx3) fun v3 w8 hv3 => ?_)
 obtain ⟨hv3, hb8⟩ := hv3
 have hl8 := Le.no (Add g3 (Add g2 (Add g1 M))) hb8
 have hC8 := hC7.no hb8
 have ho19 := ho17.no hb8
 have ho20 := ho16.no hb8
 have ho21 := ho18.no hb8
 obtain rfl := vbool_eq hv3
 refine Zo Z Z Z (ow_not Z Z (Zo Z Z Z (Zm Z Z ?_)))
 replace h := Zc h
 rcases h with ⟨hc1, h⟩ | ⟨hc1, h⟩
 ·
  subst hc1
  refine lw_on Z Z Z Z Z Z (ow_loadOwnA Z Z Z ho20 (Tryd.isAgg25 _) (Tryd.sizeOf25 _) Z ?_)
  have hw8 : VRep RBox w8 (Add g3 (Add g2 (Add g1 M))) ({ Sides := x2.Sides } : Box) (.agg #[(.slice A4 x2.Sides.length c4)]) := shut_Box (VRep.mono (hl7.trans hl8) hw6)
  replace h := bind_some h
  obtain ⟨x4, hx4, h⟩ := h
  refine lw_on Z Z Z Z Z Z (Zk Z Z Tryd.call12 (w_spec_BoxValid (hG.mono (lz4.trans hl8)) hC8.old hw8 hx4) fun v4 w9 hv4 => ?_)
  obtain ⟨hv4, hb9⟩ := hv4
  have hl9 := Le.no (Add g3 (Add g2 (Add g1 M))) hb9
  have hC9 := hC8.no hb9
  have ho22 := ho19.no hb9
  have ho23 := ho20.no hb9
  have ho24 := ho21.no hb9
  obtain rfl := vbool_eq hv4
  refine lw_on Z Z Z Z Z Z (ow_not Z Z (Zo Z Z Z (ow_pickF Z Z Z (Zo Z Z Z (Zm Z Z ?_)))))
  replace h := Zc h
  rcases h with ⟨hc2, h⟩ | ⟨hc2, h⟩
  ·
   subst hc2
   refine lw_on Z Z Z Z Z Z (ow_loadOwnA Z Z Z ho22 (Tryd.isAgg25 _) (Tryd.sizeOf25 _) Z ?_)
   have lz5 := ((lz3.trans hl8).trans hl9)
   have hw9 : VRep RBox w9 (Add g3 (Add g2 (Add g1 M))) ({ Sides := x1.Sides } : Box) (.agg #[(.slice A3 x1.Sides.length c3)]) := shut_Box (VRep.mono lz5 hw4)
   refine lw_on Z Z Z Z Z Z (ow_loadOwnA Z Z Z ho23 (Tryd.isAgg25 _) (Tryd.sizeOf25 _) Z ?_)
   have lz6 := ((hl7.trans hl8).trans hl9)
   have hw10 : VRep RBox w9 (Add g3 (Add g2 (Add g1 M))) ({ Sides := x2.Sides } : Box) (.agg #[(.slice A4 x2.Sides.length c4)]) := shut_Box (VRep.mono lz6 hw6)
   replace h := bind_some h
   obtain ⟨x5, hx5, h⟩ := h
   have lz7 := ((lz4.trans hl8).trans hl9)
   refine lw_on Z Z Z Z Z Z (Zk Z Z Tryd.call73 (w_spec_l10Meet (hG.mono lz7) hC9.old hw9 hw10 hx5) fun v5 w10 hv5 => ?_)
   obtain ⟨hv5, hb10⟩ := hv5
   have hl10 := Le.no (Add g3 (Add g2 (Add g1 M))) hb10
   have hC10 := hC9.no hb10
   have ho25 := ho22.no hb10
   have ho26 := ho23.no hb10
   have ho27 := ho24.no hb10
   replace h := bind_some h
   obtain ⟨x6, hx6, h⟩ := h
   refine lw_on Z Z Z Z Z Z (Zk Z Z Tryd.call12 (w_spec_BoxValid (hG.mono (lz7.trans hl10)) hC10.old hv5 hx6) fun v6 w11 hv6 => ?_)
   obtain ⟨hv6, hb11⟩ := hv6
   have hl11 := Le.no (Add g3 (Add g2 (Add g1 M))) hb11
   have hC11 := hC10.no hb11
   have ho28 := ho25.no hb11
   have ho29 := ho26.no hb11
   have ho30 := ho27.no hb11
   obtain rfl := vbool_eq hv6
   refine lw_on Z Z Z Z Z Z (ow_not Z Z (Zo Z Z Z (ow_pickF Z Z Z (Zn (Ze ?_)))))
   replace h := Zc h
   rcases h with ⟨hc3, h⟩ | ⟨hc3, h⟩
   ·
    subst hc3
    refine Zu Z (cw_skip (Ze (cw_seq (Zr (Zo Z Z Z (ow_loadOwnA Z Z Z ho28 (Tryd.isAgg25 _) (Tryd.sizeOf25 _) Z ?_))))))
    have lz8 := ((lz5.trans hl10).trans hl11)
    have hw11 : VRep RBox w11 (Add g3 (Add g2 (Add g1 M))) ({ Sides := x1.Sides } : Box) (.agg #[(.slice A3 x1.Sides.length c3)]) := shut_Box (VRep.mono lz8 hw4)
    refine Zo Z Z Z (ow_loadOwnA Z Z Z ho29 (Tryd.isAgg25 _) (Tryd.sizeOf25 _) Z ?_)
    have lz9 := ((lz6.trans hl10).trans hl11)
    have hw12 : VRep RBox w11 (Add g3 (Add g2 (Add g1 M))) ({ Sides := x2.Sides } : Box) (.agg #[(.slice A4 x2.Sides.length c4)]) := shut_Box (VRep.mono lz9 hw6)
    have lz10 := ((lz7.trans hl10).trans hl11)
    refine Zo Z Z Z (Zk Z Z Tryd.call73 (w_spec_l10Meet (hG.mono lz10) hC11.old hw11 hw12 hx5) fun v7 w12 hv7 => ?_)
    obtain ⟨hv7, hb12⟩ := hv7
    have hC12 := hC11.no hb12
    have ho33 := ho30.no hb12
    obtain ⟨A5, c5, rfl, hw13⟩ := open_Box hv7
    refine lw_op0 Z Z (ow_store (X := No) (us := [(.slice A5 x5.Sides.length c5)]) (cs' := #[(.slice A5 x5.Sides.length c5)]) Z Z Z Z ho33 (Tryd.sizeOf25 _) Z Z Z Z hm6 (.inl hg6) Z hC12 fun w13 ho34 hb13 hl13 hC13 => Zn (Ze (Zy ?_)))
    have hw14 : VRep RBox w13 (Add g3 (Add g2 (Add g1 M))) ({ Sides := x5.Sides } : Box) (.agg #[(.slice A5 x5.Sides.length c5)]) := shut_Box (VRep.mono hl13 hw13)
    obtain rfl := sj h
    exact ew_ret (res1 Z (.cell Z (own_loadVarA ho34 (Tryd.isAgg25 _) (Tryd.sizeOf25 _) Z))) ⟨_, Z, (hw14.mono hC13.back), hC13.bx⟩
   ·
    subst hc3
    refine cw_true Z (cw_seq (Zr (Zo Z Z Z (ow_build (v := .agg #[(.slice none 0 0)]) Z Z (by kernel_rfl) (lw_op0 Z Z (ow_store (X := No) (us := [(.slice none 0 0)]) (cs' := #[(.slice none 0 0)]) Z Z Z Z ho30 (Tryd.sizeOf25 _) Z Z Z Z hm6 (.inl hg6) Z hC11 fun w14 ho37 hb14 hl14 hC14 => Zn (Ze (Zy (Zh ?_)))))))))
    have hw16 : VRep RBox w14 (Add g3 (Add g2 (Add g1 M))) ({ Sides := ([] : List (List Span)) } : Box) (.agg #[(.slice none 0 0)]) := shut_Box (VRep.mono hl14 (vslice_nil (R := (RSlice RSpan)) (w := w11) (M := (Add g3 (Add g2 (Add g1 M))))))
    obtain rfl := sj h
    exact ew_ret (res1 Z (.cell Z (own_loadVarA ho37 (Tryd.isAgg25 _) (Tryd.sizeOf25 _) Z))) ⟨_, Z, (hw16.mono hC14.back), hC14.bx⟩
  ·
   subst hc2
   refine lw_off Z Z Z Z Z Z (lw_off Z Z Z Z Z Z (lw_off Z Z Z Z Z Z (lw_off Z Z Z Z Z Z (lw_off Z Z Z Z Z Z (Zo Z Z Z (ow_pickT Z Z Z (Zn (Ze (cw_true Z (cw_seq (Zr (Zo Z Z Z (ow_build (v := .agg #[(.slice none 0 0)]) Z Z (by kernel_rfl) (lw_op0 Z Z (ow_store (X := No) (us := [(.slice none 0 0)]) (cs' := #[(.slice none 0 0)]) Z Z Z Z ho24 (Tryd.sizeOf25 _) Z Z Z Z hm6 (.inl hg6) Z hC9 fun w15 ho40 hb15 hl15 hC15 => Zn (Ze (Zy (Zh ?_))))))))))))))))))
   have hw18 : VRep RBox w15 (Add g3 (Add g2 (Add g1 M))) ({ Sides := ([] : List (List Span)) } : Box) (.agg #[(.slice none 0 0)]) := shut_Box (VRep.mono hl15 (vslice_nil (R := (RSlice RSpan)) (w := w9) (M := (Add g3 (Add g2 (Add g1 M))))))
   obtain rfl := sj h
   exact ew_ret (res1 Z (.cell Z (own_loadVarA ho40 (Tryd.isAgg25 _) (Tryd.sizeOf25 _) Z))) ⟨_, Z, (hw18.mono hC15.back), hC15.bx⟩
 ·
  subst hc1
  refine lw_off Z Z Z Z Z Z (lw_off Z Z Z Z Z Z (lw_off Z Z Z Z Z Z (Zo Z Z Z (ow_pickT Z Z Z (Zo Z Z Z (Zm Z Z (lw_off Z Z Z Z Z Z (lw_off Z Z Z Z Z Z (lw_off Z Z Z Z Z Z (lw_off Z Z Z Z Z Z (lw_off Z Z Z Z Z Z (Zo Z Z Z (ow_pickT Z Z Z (Zn (Ze (cw_true Z (cw_seq (Zr (Zo Z Z Z (ow_build (v := .agg #[(.slice none 0 0)]) Z Z (by kernel_rfl) (lw_op0 Z Z (ow_store (X := No) (us := [(.slice none 0 0)]) (cs' := #[(.slice none 0 0)]) Z Z Z Z ho21 (Tryd.sizeOf25 _) Z Z Z Z hm6 (.inl hg6) Z hC8 fun w16 ho43 hb16 hl16 hC16 => Zn (Ze (Zy (Zh ?_)))))))))))))))))))))))))
  have hw20 : VRep RBox w16 (Add g3 (Add g2 (Add g1 M))) ({ Sides := ([] : List (List Span)) } : Box) (.agg #[(.slice none 0 0)]) := shut_Box (VRep.mono hl16 (vslice_nil (R := (RSlice RSpan)) (w := w8) (M := (Add g3 (Add g2 (Add g1 M))))))
  obtain rfl := sj h
  exact ew_ret (res1 Z (.cell Z (own_loadVarA ho43 (Tryd.isAgg25 _) (Tryd.sizeOf25 _) Z))) ⟨_, Z, (hw20.mono hC16.back), hC16.bx⟩


end Go.PF
