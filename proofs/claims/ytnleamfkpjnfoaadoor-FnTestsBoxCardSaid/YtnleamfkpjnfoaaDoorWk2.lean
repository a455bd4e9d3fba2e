/- The walks; no condition. -/
import Derived.Test.YtnleamfkpjnfoaaDoorProg
import Derived.Test.YtnleamfkpjnfoaaDoorWk1
import Derived.Test.YtnleamfkpjnfoaaDoorPFNew
set_option maxRecDepth 100000
set_option maxHeartbeats 4000000
namespace Go.PF
open Go Go.RowKit Go.Proofs

theorem w_impl_TestValid {w : World} {M : Nat → Prop} (hG : ARep (RArr 4 RShape) w M shapes ⟨0, 0, none⟩) (hO : ∀ b, M b → b < w.heap.size) {v0p : Value} {a_t : Test} (h0 : VRep RTest w M a_t v0p) {r : Bool} (h : F.impl_TestValid a_t = some r) :
  Calls Tryd.prog 93 [v0p].toArray w fun e w' => ∃ v, e = .returned v ∧ VRep RBool w' M r v ∧ BX No w w' := by
 have hC : Cx No w M w M := Cx.start hO (fun _ e => e.elim)
 refine walk (N := 31) Tryd.func93 rfl Tryd.ntmps93 rfl ?_
 refine cw_seq (cw_region (lw_op rfl rfl rfl (ow_box (R := RTest) rfl rfl h0 hC fun p1 w1 hp1 hb1 hl1 hC1 => ?_)))
 refine lw_op rfl rfl rfl (ow_assign rfl rfl ?_)
 refine lw_nil (ew_then (cw_seq ?_))
 replace h := cond_some h
 rcases h with ⟨hc1, h⟩ | ⟨hc1, h⟩
 ·
  replace h := cond_some h
  rcases h with ⟨hc2, h⟩ | ⟨hc2, h⟩
  ·
   replace h := cond_some h
   rcases h with ⟨hc3, h⟩ | ⟨hc3, h⟩
   ·
    replace h := cond_some h
    rcases h with ⟨hc4, h⟩ | ⟨hc4, h⟩
    ·
     replace h := bind_some h
     obtain ⟨x1, hx1, h⟩ := h
     refine cw_sub (E' := [(1, (.pointer (some p1))), (2, (.bool false))]) ⟨rfl, rfl, trivial⟩ ?_
     refine cw_drawQ 26 [PA RInt M a_t.Field, PEq (.int .i64 a_t.Field), PEq (.bool true), PEq (.bool true), PA RInt M a_t.Field, PEq (.int .i64 a_t.Field), PEq (.bool true), PEq (.bool true), PEq (.bool true), PA RInt M a_t.Lo, PEq (.int .i64 a_t.Lo), PEq (.bool true), PEq (.bool true), PEq (.bool true), PA RInt M a_t.Lo, PEq (.int .i64 a_t.Lo), PA RInt M a_t.Hi, PEq (.int .i64 a_t.Hi), PEq (.bool true), PEq (.bool true), PEq (.bool true), PA RInt M a_t.Hi, PEq (.int .i64 a_t.Hi), PA RInt M a_t.Field, PEq (.int .i64 a_t.Field), PEq (.int .i64 x1)] (by kernel_rfl) rfl (by kernel_rfl) ⟨PA.mono _ _ _, PEq.mono _, PEq.mono _, PEq.mono _, PA.mono _ _ _, PEq.mono _, PEq.mono _, PEq.mono _, PEq.mono _, PA.mono _ _ _, PEq.mono _, PEq.mono _, PEq.mono _, PEq.mono _, PA.mono _ _ _, PEq.mono _, PA.mono _ _ _, PEq.mono _, PEq.mono _, PEq.mono _, PEq.mono _, PA.mono _ _ _, PEq.mono _, PA.mono _ _ _, PEq.mono _, PEq.mono _, trivial⟩ ⟨?_, ?_, ?_, ?_, ?_, ?_, ?_, ?_, ?_, ?_, ?_, ?_, ?_, ?_, ?_, ?_, ?_, ?_, ?_, ?_, ?_, ?_, ?_, ?_, ?_, ?_, trivial⟩ ?_
     ·
      intro w3 D hS1 hd1
      have hl3 := Le.no M hS1
      have hC3 := hC1.no hS1
      refine dg_sub (E' := [(1, (.pointer (some p1)))]) ⟨rfl, trivial⟩ ?_
      refine dg_plain rfl (ow_fieldAddr rfl rfl Tryd.underlying31 rfl (Tryd.sizeOf3 _) ?_)
      exact ⟨BX.refl _ _, ⟨_, rfl, (ARep.mono hl3 (hp1.fld fld_Test_Field))⟩⟩
     ·
      intro w4 D hS2 hd2
      have hl4 := Le.no M hS2
      have hC4 := hC1.no hS2
      have hd2 : PA RInt M a_t.Field (D 0) w4 ∧ True := hd2
      obtain ⟨d1, -⟩ := hd2
      obtain ⟨p2, e1, ha1⟩ := d1
      refine dg_sub (E' := [(3, (.pointer (some p2)))]) ⟨(congrArg some e1), trivial⟩ ?_
      refine dg_plain rfl (ow_load (R := RInt) rfl rfl ha1 (Tryd.sizeOf3 _) (Tryd.isAgg3 _) fun v9 hv9 => ?_)
      obtain rfl := vint_eq hv9
      exact ⟨BX.refl _ _, rfl⟩
     ·
      intro w5 D hS3 hd3
      have hl5 := Le.no M hS3
      have hC5 := hC1.no hS3
      have hd3 : PEq (.int .i64 a_t.Field) (D 1) w5 ∧ True := hd3
      obtain ⟨d2, -⟩ := hd3
      refine dg_sub (E' := [(4, (.int .i64 a_t.Field))]) ⟨(congrArg some d2), trivial⟩ ?_
      refine dg_plain rfl (ow_geq rfl rfl rfl fun bb5 hbb5 => ?_)
      obtain rfl := hbb5.trans hc1
      exact ⟨BX.refl _ _, rfl⟩
     ·
      intro w6 D hS4 hd4
      have hl6 := Le.no M hS4
      have hC6 := hC1.no hS4
      have hd4 : PEq (.bool true) (D 2) w6 ∧ True := hd4
      obtain ⟨d3, -⟩ := hd4
      refine dg_sub (E' := [(5, (.bool true))]) ⟨(congrArg some d3), trivial⟩ ?_
      refine dg_plain rfl (ow_move rfl rfl ?_)
      exact ⟨BX.refl _ _, rfl⟩
     ·
      intro w7 D hS5 hd5
      have hl7 := Le.no M hS5
      have hC7 := hC1.no hS5
      have hd5 : PEq (.bool true) (D 3) w7 ∧ True := hd5
      obtain ⟨d4, -⟩ := hd5
      refine dg_sub (E' := [(6, (.bool true)), (1, (.pointer (some p1)))]) ⟨(congrArg some d4), rfl, trivial⟩ ?_
      refine dg_on rfl rfl rfl rfl (ow_fieldAddr rfl rfl Tryd.underlying31 rfl (Tryd.sizeOf3 _) ?_)
      exact ⟨BX.refl _ _, ⟨_, rfl, (ARep.mono hl7 (hp1.fld fld_Test_Field))⟩⟩
     ·
      intro w8 D hS6 hd6
      have hl8 := Le.no M hS6
      have hC8 := hC1.no hS6
      have hd6 : PA RInt M a_t.Field (D 4) w8 ∧ PEq (.bool true) (D 3) w8 ∧ True := hd6
      obtain ⟨d5, d6, -⟩ := hd6
      obtain ⟨p3, e2, ha2⟩ := d5
      refine dg_sub (E' := [(7, (.pointer (some p3))), (6, (.bool true))]) ⟨(congrArg some e2), (congrArg some d6), trivial⟩ ?_
      refine dg_on rfl rfl rfl rfl (ow_load (R := RInt) rfl rfl ha2 (Tryd.sizeOf3 _) (Tryd.isAgg3 _) fun v10 hv10 => ?_)
      obtain rfl := vint_eq hv10
      exact ⟨BX.refl _ _, rfl⟩
     ·
      intro w9 D hS7 hd7
      have hl9 := Le.no M hS7
      have hC9 := hC1.no hS7
      have hd7 : PEq (.int .i64 a_t.Field) (D 5) w9 ∧ PEq (.bool true) (D 3) w9 ∧ True := hd7
      obtain ⟨d7, d8, -⟩ := hd7
      refine dg_sub (E' := [(8, (.int .i64 a_t.Field)), (6, (.bool true))]) ⟨(congrArg some d7), (congrArg some d8), trivial⟩ ?_
      refine dg_on rfl rfl rfl rfl (ow_lss rfl rfl rfl fun bb6 hbb6 => ?_)
      obtain rfl := hbb6.trans hc2
      exact ⟨BX.refl _ _, rfl⟩
     ·
      intro w10 D hS8 hd8
      have hl10 := Le.no M hS8
      have hC10 := hC1.no hS8
      have hd8 : PEq (.bool true) (D 3) w10 ∧ PEq (.bool true) (D 6) w10 ∧ True := hd8
      obtain ⟨d9, d10, -⟩ := hd8
      refine dg_sub (E' := [(6, (.bool true)), (9, (.bool true))]) ⟨(congrArg some d9), (congrArg some d10), trivial⟩ ?_
      refine dg_plain rfl (ow_pickT rfl rfl rfl ?_)
      exact ⟨BX.refl _ _, rfl⟩
     ·
      intro w11 D hS9 hd9
      have hl11 := Le.no M hS9
      have hC11 := hC1.no hS9
      have hd9 : PEq (.bool true) (D 7) w11 ∧ PEq (.bool true) (D 3) w11 ∧ True := hd9
      obtain ⟨d11, d12, -⟩ := hd9
      refine dg_sub (E' := [(10, (.bool true))]) ⟨(congrArg some d11), trivial⟩ ?_
      refine dg_plain rfl (ow_move rfl rfl ?_)
      exact ⟨BX.refl _ _, rfl⟩
     ·
      intro w12 D hS10 hd10
      have hl12 := Le.no M hS10
      have hC12 := hC1.no hS10
      have hd10 : PEq (.bool true) (D 8) w12 ∧ True := hd10
      obtain ⟨d13, -⟩ := hd10
      refine dg_sub (E' := [(11, (.bool true)), (1, (.pointer (some p1)))]) ⟨(congrArg some d13), rfl, trivial⟩ ?_
      refine dg_on rfl rfl rfl rfl (ow_fieldAddr rfl rfl Tryd.underlying31 rfl (Tryd.sizeOf3 _) ?_)
      exact ⟨BX.refl _ _, ⟨_, rfl, (ARep.mono hl12 (hp1.fld fld_Test_Lo))⟩⟩
     ·
      intro w13 D hS11 hd11
      have hl13 := Le.no M hS11
      have hC13 := hC1.no hS11
      have hd11 : PA RInt M a_t.Lo (D 9) w13 ∧ PEq (.bool true) (D 8) w13 ∧ True := hd11
      obtain ⟨d14, d15, -⟩ := hd11
      obtain ⟨p4, e3, ha3⟩ := d14
      refine dg_sub (E' := [(12, (.pointer (some p4))), (11, (.bool true))]) ⟨(congrArg some e3), (congrArg some d15), trivial⟩ ?_
      refine dg_on rfl rfl rfl rfl (ow_load (R := RInt) rfl rfl ha3 (Tryd.sizeOf3 _) (Tryd.isAgg3 _) fun v11 hv11 => ?_)
      obtain rfl := vint_eq hv11
      exact ⟨BX.refl _ _, rfl⟩
     ·
      intro w14 D hS12 hd12
      have hl14 := Le.no M hS12
      have hC14 := hC1.no hS12
      have hd12 : PEq (.int .i64 a_t.Lo) (D 10) w14 ∧ PEq (.bool true) (D 8) w14 ∧ True := hd12
      obtain ⟨d16, d17, -⟩ := hd12
      refine dg_sub (E' := [(13, (.int .i64 a_t.Lo)), (11, (.bool true))]) ⟨(congrArg some d16), (congrArg some d17), trivial⟩ ?_
      refine dg_on rfl rfl rfl rfl (ow_geq rfl rfl rfl fun bb7 hbb7 => ?_)
      obtain rfl := hbb7.trans hc3
      exact ⟨BX.refl _ _, rfl⟩
     ·
      intro w15 D hS13 hd13
      have hl15 := Le.no M hS13
      have hC15 := hC1.no hS13
      have hd13 : PEq (.bool true) (D 8) w15 ∧ PEq (.bool true) (D 11) w15 ∧ True := hd13
      obtain ⟨d18, d19, -⟩ := hd13
      refine dg_sub (E' := [(11, (.bool true)), (14, (.bool true))]) ⟨(congrArg some d18), (congrArg some d19), trivial⟩ ?_
      refine dg_plain rfl (ow_pickT rfl rfl rfl ?_)
      exact ⟨BX.refl _ _, rfl⟩
     ·
      intro w16 D hS14 hd14
      have hl16 := Le.no M hS14
      have hC16 := hC1.no hS14
      have hd14 : PEq (.bool true) (D 12) w16 ∧ PEq (.bool true) (D 8) w16 ∧ True := hd14
      obtain ⟨d20, d21, -⟩ := hd14
      refine dg_sub (E' := [(15, (.bool true))]) ⟨(congrArg some d20), trivial⟩ ?_
      refine dg_plain rfl (ow_move rfl rfl ?_)
      exact ⟨BX.refl _ _, rfl⟩
     ·
      intro w17 D hS15 hd15
      have hl17 := Le.no M hS15
      have hC17 := hC1.no hS15
      have hd15 : PEq (.bool true) (D 13) w17 ∧ True := hd15
      obtain ⟨d22, -⟩ := hd15
      refine dg_sub (E' := [(16, (.bool true)), (1, (.pointer (some p1)))]) ⟨(congrArg some d22), rfl, trivial⟩ ?_
      refine dg_on rfl rfl rfl rfl (ow_fieldAddr rfl rfl Tryd.underlying31 rfl (Tryd.sizeOf3 _) ?_)
      exact ⟨BX.refl _ _, ⟨_, rfl, (ARep.mono hl17 (hp1.fld fld_Test_Lo))⟩⟩
     ·
      intro w18 D hS16 hd16
      have hl18 := Le.no M hS16
      have hC18 := hC1.no hS16
      have hd16 : PA RInt M a_t.Lo (D 14) w18 ∧ PEq (.bool true) (D 13) w18 ∧ True := hd16
      obtain ⟨d23, d24, -⟩ := hd16
      obtain ⟨p5, e4, ha4⟩ := d23
      refine dg_sub (E' := [(17, (.pointer (some p5))), (16, (.bool true))]) ⟨(congrArg some e4), (congrArg some d24), trivial⟩ ?_
      refine dg_on rfl rfl rfl rfl (ow_load (R := RInt) rfl rfl ha4 (Tryd.sizeOf3 _) (Tryd.isAgg3 _) fun v12 hv12 => ?_)
      obtain rfl := vint_eq hv12
      exact ⟨BX.refl _ _, rfl⟩
     ·
      intro w19 D hS17 hd17
      have hl19 := Le.no M hS17
      have hC19 := hC1.no hS17
      have hd17 : PEq (.bool true) (D 13) w19 ∧ True := hd17
      obtain ⟨d25, -⟩ := hd17
      refine dg_sub (E' := [(16, (.bool true)), (1, (.pointer (some p1)))]) ⟨(congrArg some d25), rfl, trivial⟩ ?_
      refine dg_on rfl rfl rfl rfl (ow_fieldAddr rfl rfl Tryd.underlying31 rfl (Tryd.sizeOf3 _) ?_)
      exact ⟨BX.refl _ _, ⟨_, rfl, (ARep.mono hl19 (hp1.fld fld_Test_Hi))⟩⟩
     ·
      intro w20 D hS18 hd18
      have hl20 := Le.no M hS18
      have hC20 := hC1.no hS18
      have hd18 : PA RInt M a_t.Hi (D 16) w20 ∧ PEq (.bool true) (D 13) w20 ∧ True := hd18
      obtain ⟨d26, d27, -⟩ := hd18
      obtain ⟨p6, e5, ha5⟩ := d26
      refine dg_sub (E' := [(19, (.pointer (some p6))), (16, (.bool true))]) ⟨(congrArg some e5), (congrArg some d27), trivial⟩ ?_
      refine dg_on rfl rfl rfl rfl (ow_load (R := RInt) rfl rfl ha5 (Tryd.sizeOf3 _) (Tryd.isAgg3 _) fun v13 hv13 => ?_)
      obtain rfl := vint_eq hv13
      exact ⟨BX.refl _ _, rfl⟩
     ·
      intro w21 D hS19 hd19
      have hl21 := Le.no M hS19
      have hC21 := hC1.no hS19
      have hd19 : PEq (.int .i64 a_t.Lo) (D 15) w21 ∧ PEq (.int .i64 a_t.Hi) (D 17) w21 ∧ PEq (.bool true) (D 13) w21 ∧ True := hd19
      obtain ⟨d28, d29, d30, -⟩ := hd19
      refine dg_sub (E' := [(18, (.int .i64 a_t.Lo)), (20, (.int .i64 a_t.Hi)), (16, (.bool true))]) ⟨(congrArg some d28), (congrArg some d29), (congrArg some d30), trivial⟩ ?_
      refine dg_on rfl rfl rfl rfl (ow_leq rfl rfl rfl fun bb8 hbb8 => ?_)
      obtain rfl := hbb8.trans hc4
      exact ⟨BX.refl _ _, rfl⟩
     ·
      intro w22 D hS20 hd20
      have hl22 := Le.no M hS20
      have hC22 := hC1.no hS20
      have hd20 : PEq (.bool true) (D 13) w22 ∧ PEq (.bool true) (D 18) w22 ∧ True := hd20
      obtain ⟨d31, d32, -⟩ := hd20
      refine dg_sub (E' := [(16, (.bool true)), (21, (.bool true))]) ⟨(congrArg some d31), (congrArg some d32), trivial⟩ ?_
      refine dg_plain rfl (ow_pickT rfl rfl rfl ?_)
      exact ⟨BX.refl _ _, rfl⟩
     ·
      intro w23 D hS21 hd21
      have hl23 := Le.no M hS21
      have hC23 := hC1.no hS21
      have hd21 : PEq (.bool true) (D 19) w23 ∧ PEq (.bool true) (D 13) w23 ∧ True := hd21
      obtain ⟨d33, d34, -⟩ := hd21
      refine dg_sub (E' := [(22, (.bool true))]) ⟨(congrArg some d33), trivial⟩ ?_
      refine dg_plain rfl (ow_move rfl rfl ?_)
      exact ⟨BX.refl _ _, rfl⟩
     ·
      intro w24 D hS22 hd22
      have hl24 := Le.no M hS22
      have hC24 := hC1.no hS22
      have hd22 : PEq (.bool true) (D 20) w24 ∧ True := hd22
      obtain ⟨d35, -⟩ := hd22
      refine dg_sub (E' := [(23, (.bool true)), (1, (.pointer (some p1)))]) ⟨(congrArg some d35), rfl, trivial⟩ ?_
      refine dg_on rfl rfl rfl rfl (ow_fieldAddr rfl rfl Tryd.underlying31 rfl (Tryd.sizeOf3 _) ?_)
      exact ⟨BX.refl _ _, ⟨_, rfl, (ARep.mono hl24 (hp1.fld fld_Test_Hi))⟩⟩
     ·
      intro w25 D hS23 hd23
      have hl25 := Le.no M hS23
      have hC25 := hC1.no hS23
      have hd23 : PA RInt M a_t.Hi (D 21) w25 ∧ PEq (.bool true) (D 20) w25 ∧ True := hd23
      obtain ⟨d36, d37, -⟩ := hd23
      obtain ⟨p7, e6, ha6⟩ := d36
      refine dg_sub (E' := [(24, (.pointer (some p7))), (23, (.bool true))]) ⟨(congrArg some e6), (congrArg some d37), trivial⟩ ?_
      refine dg_on rfl rfl rfl rfl (ow_load (R := RInt) rfl rfl ha6 (Tryd.sizeOf3 _) (Tryd.isAgg3 _) fun v14 hv14 => ?_)
      obtain rfl := vint_eq hv14
      exact ⟨BX.refl _ _, rfl⟩
     ·
      intro w26 D hS24 hd24
      have hl26 := Le.no M hS24
      have hC26 := hC1.no hS24
      have hd24 : PEq (.bool true) (D 20) w26 ∧ True := hd24
      obtain ⟨d38, -⟩ := hd24
      refine dg_sub (E' := [(23, (.bool true)), (1, (.pointer (some p1)))]) ⟨(congrArg some d38), rfl, trivial⟩ ?_
      refine dg_on rfl rfl rfl rfl (ow_fieldAddr rfl rfl Tryd.underlying31 rfl (Tryd.sizeOf3 _) ?_)
      exact ⟨BX.refl _ _, ⟨_, rfl, (ARep.mono hl26 (hp1.fld fld_Test_Field))⟩⟩
     ·
      intro w27 D hS25 hd25
      have hl27 := Le.no M hS25
      have hC27 := hC1.no hS25
      have hd25 : PA RInt M a_t.Field (D 23) w27 ∧ PEq (.bool true) (D 20) w27 ∧ True := hd25
      obtain ⟨d39, d40, -⟩ := hd25
      obtain ⟨p8, e7, ha7⟩ := d39
      refine dg_sub (E' := [(26, (.pointer (some p8))), (23, (.bool true))]) ⟨(congrArg some e7), (congrArg some d40), trivial⟩ ?_
      refine dg_on rfl rfl rfl rfl (ow_load (R := RInt) rfl rfl ha7 (Tryd.sizeOf3 _) (Tryd.isAgg3 _) fun v15 hv15 => ?_)
      obtain rfl := vint_eq hv15
      exact ⟨BX.refl _ _, rfl⟩
     ·
      intro w28 D hS26 hd26
      have hl28 := Le.no M hS26
      have hC28 := hC1.no hS26
      have hd26 : PEq (.int .i64 a_t.Field) (D 24) w28 ∧ PEq (.bool true) (D 20) w28 ∧ PEq (.bool true) (D 20) w28 ∧ True := hd26
      obtain ⟨d41, d42, d43, -⟩ := hd26
      refine dg_sub (E' := [(27, (.int .i64 a_t.Field)), (23, (.bool true))]) ⟨(congrArg some d41), (congrArg some d42), trivial⟩ ?_
      refine dg_on rfl rfl rfl rfl (ow_call rfl rfl Tryd.call69 (w_impl_FieldTop (hG.mono (hl1.trans hl28)) hC28.old hx1) fun v16 w29 hv16 => ?_)
      obtain ⟨hv16, hb3⟩ := hv16
      have hl29 := Le.no M hb3
      have hC29 := hC28.no hb3
      obtain rfl := vint_eq hv16
      exact ⟨hb3, rfl⟩
     ·
      intro w30 D hS27 hd27
      have hd27 : PA RInt M a_t.Field (D 0) w30 ∧ PEq (.int .i64 a_t.Field) (D 1) w30 ∧ PEq (.bool true) (D 2) w30 ∧ PEq (.bool true) (D 3) w30 ∧ PA RInt M a_t.Field (D 4) w30 ∧ PEq (.int .i64 a_t.Field) (D 5) w30 ∧ PEq (.bool true) (D 6) w30 ∧ PEq (.bool true) (D 7) w30 ∧ PEq (.bool true) (D 8) w30 ∧ PA RInt M a_t.Lo (D 9) w30 ∧ PEq (.int .i64 a_t.Lo) (D 10) w30 ∧ PEq (.bool true) (D 11) w30 ∧ PEq (.bool true) (D 12) w30 ∧ PEq (.bool true) (D 13) w30 ∧ PA RInt M a_t.Lo (D 14) w30 ∧ PEq (.int .i64 a_t.Lo) (D 15) w30 ∧ PA RInt M a_t.Hi (D 16) w30 ∧ PEq (.int .i64 a_t.Hi) (D 17) w30 ∧ PEq (.bool true) (D 18) w30 ∧ PEq (.bool true) (D 19) w30 ∧ PEq (.bool true) (D 20) w30 ∧ PA RInt M a_t.Hi (D 21) w30 ∧ PEq (.int .i64 a_t.Hi) (D 22) w30 ∧ PA RInt M a_t.Field (D 23) w30 ∧ PEq (.int .i64 a_t.Field) (D 24) w30 ∧ PEq (.int .i64 x1) (D 25) w30 ∧ True := hd27
      obtain ⟨-, -, -, -, -, -, -, -, -, -, -, -, -, -, -, -, -, -, -, -, d64, -, d66, -, -, d69, -⟩ := hd27
      have hl30 := Le.no M hS27
      have hC30 := hC1.no hS27
      refine lw_sub (E' := [(23, (.bool true)), (25, (.int .i64 a_t.Hi)), (28, (.int .i64 x1)), (1, (.pointer (some p1))), (2, (.bool false))]) ⟨(congrArg some d64), (congrArg some d66), (congrArg some d69), rfl, rfl, trivial⟩ ?_
      refine lw_on rfl rfl rfl rfl rfl rfl (ow_leq rfl rfl rfl fun bb9 hbb9 => ?_)
      refine lw_op rfl rfl rfl (ow_pickT rfl rfl rfl ?_)
      refine lw_op rfl rfl rfl (ow_assign rfl rfl ?_)
      refine lw_nil (ew_then (cw_ret ?_))
      obtain rfl := Option.some.inj h
      exact ew_ret (res1 rfl (.tmp rfl)) ⟨_, rfl, ((vbool_of hbb9)), hC30.bx⟩
    ·
     refine cw_sub (E' := [(1, (.pointer (some p1))), (2, (.bool false))]) ⟨rfl, rfl, trivial⟩ ?_
     refine cw_drawQ 26 [PA RInt M a_t.Field, PEq (.int .i64 a_t.Field), PEq (.bool true), PEq (.bool true), PA RInt M a_t.Field, PEq (.int .i64 a_t.Field), PEq (.bool true), PEq (.bool true), PEq (.bool true), PA RInt M a_t.Lo, PEq (.int .i64 a_t.Lo), PEq (.bool true), PEq (.bool true), PEq (.bool true), PA RInt M a_t.Lo, PEq (.int .i64 a_t.Lo), PA RInt M a_t.Hi, PEq (.int .i64 a_t.Hi), PEq (.bool false), PEq (.bool false), PEq (.bool false), PEq undef, PEq undef, PEq undef, PEq undef, PEq undef] (by kernel_rfl) rfl (by kernel_rfl) ⟨PA.mono _ _ _, PEq.mono _, PEq.mono _, PEq.mono _, PA.mono _ _ _, PEq.mono _, PEq.mono _, PEq.mono _, PEq.mono _, PA.mono _ _ _, PEq.mono _, PEq.mono _, PEq.mono _, PEq.mono _, PA.mono _ _ _, PEq.mono _, PA.mono _ _ _, PEq.mono _, PEq.mono _, PEq.mono _, PEq.mono _, PEq.mono _, PEq.mono _, PEq.mono _, PEq.mono _, PEq.mono _, trivial⟩ ⟨?_, ?_, ?_, ?_, ?_, ?_, ?_, ?_, ?_, ?_, ?_, ?_, ?_, ?_, ?_, ?_, ?_, ?_, ?_, ?_, ?_, ?_, ?_, ?_, ?_, ?_, trivial⟩ ?_
     ·
      intro w31 D hS28 hd28
      have hl31 := Le.no M hS28
      have hC31 := hC1.no hS28
      refine dg_sub (E' := [(1, (.pointer (some p1)))]) ⟨rfl, trivial⟩ ?_
      refine dg_plain rfl (ow_fieldAddr rfl rfl Tryd.underlying31 rfl (Tryd.sizeOf3 _) ?_)
      exact ⟨BX.refl _ _, ⟨_, rfl, (ARep.mono hl31 (hp1.fld fld_Test_Field))⟩⟩
     ·
      intro w32 D hS29 hd29
      have hl32 := Le.no M hS29
      have hC32 := hC1.no hS29
      have hd29 : PA RInt M a_t.Field (D 0) w32 ∧ True := hd29
      obtain ⟨d70, -⟩ := hd29
      obtain ⟨p9, e8, ha8⟩ := d70
      refine dg_sub (E' := [(3, (.pointer (some p9)))]) ⟨(congrArg some e8), trivial⟩ ?_
      refine dg_plain rfl (ow_load (R := RInt) rfl rfl ha8 (Tryd.sizeOf3 _) (Tryd.isAgg3 _) fun v17 hv17 => ?_)
      obtain rfl := vint_eq hv17
      exact ⟨BX.refl _ _, rfl⟩
     ·
      intro w33 D hS30 hd30
      have hl33 := Le.no M hS30
      have hC33 := hC1.no hS30
      have hd30 : PEq (.int .i64 a_t.Field) (D 1) w33 ∧ True := hd30
      obtain ⟨d71, -⟩ := hd30
      refine dg_sub (E' := [(4, (.int .i64 a_t.Field))]) ⟨(congrArg some d71), trivial⟩ ?_
      refine dg_plain rfl (ow_geq rfl rfl rfl fun bb10 hbb10 => ?_)
      obtain rfl := hbb10.trans hc1
      exact ⟨BX.refl _ _, rfl⟩
     ·
      intro w34 D hS31 hd31
      have hl34 := Le.no M hS31
      have hC34 := hC1.no hS31
      have hd31 : PEq (.bool true) (D 2) w34 ∧ True := hd31
      obtain ⟨d72, -⟩ := hd31
      refine dg_sub (E' := [(5, (.bool true))]) ⟨(congrArg some d72), trivial⟩ ?_
      refine dg_plain rfl (ow_move rfl rfl ?_)
      exact ⟨BX.refl _ _, rfl⟩
     ·
      intro w35 D hS32 hd32
      have hl35 := Le.no M hS32
      have hC35 := hC1.no hS32
      have hd32 : PEq (.bool true) (D 3) w35 ∧ True := hd32
      obtain ⟨d73, -⟩ := hd32
      refine dg_sub (E' := [(6, (.bool true)), (1, (.pointer (some p1)))]) ⟨(congrArg some d73), rfl, trivial⟩ ?_
      refine dg_on rfl rfl rfl rfl (ow_fieldAddr rfl rfl Tryd.underlying31 rfl (Tryd.sizeOf3 _) ?_)
      exact ⟨BX.refl _ _, ⟨_, rfl, (ARep.mono hl35 (hp1.fld fld_Test_Field))⟩⟩
     ·
      intro w36 D hS33 hd33
      have hl36 := Le.no M hS33
      have hC36 := hC1.no hS33
      have hd33 : PA RInt M a_t.Field (D 4) w36 ∧ PEq (.bool true) (D 3) w36 ∧ True := hd33
      obtain ⟨d74, d75, -⟩ := hd33
      obtain ⟨p10, e9, ha9⟩ := d74
      refine dg_sub (E' := [(7, (.pointer (some p10))), (6, (.bool true))]) ⟨(congrArg some e9), (congrArg some d75), trivial⟩ ?_
      refine dg_on rfl rfl rfl rfl (ow_load (R := RInt) rfl rfl ha9 (Tryd.sizeOf3 _) (Tryd.isAgg3 _) fun v18 hv18 => ?_)
      obtain rfl := vint_eq hv18
      exact ⟨BX.refl _ _, rfl⟩
     ·
      intro w37 D hS34 hd34
      have hl37 := Le.no M hS34
      have hC37 := hC1.no hS34
      have hd34 : PEq (.int .i64 a_t.Field) (D 5) w37 ∧ PEq (.bool true) (D 3) w37 ∧ True := hd34
      obtain ⟨d76, d77, -⟩ := hd34
      refine dg_sub (E' := [(8, (.int .i64 a_t.Field)), (6, (.bool true))]) ⟨(congrArg some d76), (congrArg some d77), trivial⟩ ?_
      refine dg_on rfl rfl rfl rfl (ow_lss rfl rfl rfl fun bb11 hbb11 => ?_)
      obtain rfl := hbb11.trans hc2
      exact ⟨BX.refl _ _, rfl⟩
     ·
      intro w38 D hS35 hd35
      have hl38 := Le.no M hS35
      have hC38 := hC1.no hS35
      have hd35 : PEq (.bool true) (D 3) w38 ∧ PEq (.bool true) (D 6) w38 ∧ True := hd35
      obtain ⟨d78, d79, -⟩ := hd35
      refine dg_sub (E' := [(6, (.bool true)), (9, (.bool true))]) ⟨(congrArg some d78), (congrArg some d79), trivial⟩ ?_
      refine dg_plain rfl (ow_pickT rfl rfl rfl ?_)
      exact ⟨BX.refl _ _, rfl⟩
     ·
      intro w39 D hS36 hd36
      have hl39 := Le.no M hS36
      have hC39 := hC1.no hS36
      have hd36 : PEq (.bool true) (D 7) w39 ∧ PEq (.bool true) (D 3) w39 ∧ True := hd36
      obtain ⟨d80, d81, -⟩ := hd36
      refine dg_sub (E' := [(10, (.bool true))]) ⟨(congrArg some d80), trivial⟩ ?_
      refine dg_plain rfl (ow_move rfl rfl ?_)
      exact ⟨BX.refl _ _, rfl⟩
     ·
      intro w40 D hS37 hd37
      have hl40 := Le.no M hS37
      have hC40 := hC1.no hS37
      have hd37 : PEq (.bool true) (D 8) w40 ∧ True := hd37
      obtain ⟨d82, -⟩ := hd37
      refine dg_sub (E' := [(11, (.bool true)), (1, (.pointer (some p1)))]) ⟨(congrArg some d82), rfl, trivial⟩ ?_
      refine dg_on rfl rfl rfl rfl (ow_fieldAddr rfl rfl Tryd.underlying31 rfl (Tryd.sizeOf3 _) ?_)
      exact ⟨BX.refl _ _, ⟨_, rfl, (ARep.mono hl40 (hp1.fld fld_Test_Lo))⟩⟩
     ·
      intro w41 D hS38 hd38
      have hl41 := Le.no M hS38
      have hC41 := hC1.no hS38
      have hd38 : PA RInt M a_t.Lo (D 9) w41 ∧ PEq (.bool true) (D 8) w41 ∧ True := hd38
      obtain ⟨d83, d84, -⟩ := hd38
      obtain ⟨p11, e10, ha10⟩ := d83
      refine dg_sub (E' := [(12, (.pointer (some p11))), (11, (.bool true))]) ⟨(congrArg some e10), (congrArg some d84), trivial⟩ ?_
      refine dg_on rfl rfl rfl rfl (ow_load (R := RInt) rfl rfl ha10 (Tryd.sizeOf3 _) (Tryd.isAgg3 _) fun v19 hv19 => ?_)
      obtain rfl := vint_eq hv19
      exact ⟨BX.refl _ _, rfl⟩
     ·
      intro w42 D hS39 hd39
      have hl42 := Le.no M hS39
      have hC42 := hC1.no hS39
      have hd39 : PEq (.int .i64 a_t.Lo) (D 10) w42 ∧ PEq (.bool true) (D 8) w42 ∧ True := hd39
      obtain ⟨d85, d86, -⟩ := hd39
      refine dg_sub (E' := [(13, (.int .i64 a_t.Lo)), (11, (.bool true))]) ⟨(congrArg some d85), (congrArg some d86), trivial⟩ ?_
      refine dg_on rfl rfl rfl rfl (ow_geq rfl rfl rfl fun bb12 hbb12 => ?_)
      obtain rfl := hbb12.trans hc3
      exact ⟨BX.refl _ _, rfl⟩
     ·
      intro w43 D hS40 hd40
      have hl43 := Le.no M hS40
      have hC43 := hC1.no hS40
      have hd40 : PEq (.bool true) (D 8) w43 ∧ PEq (.bool true) (D 11) w43 ∧ True := hd40
      obtain ⟨d87, d88, -⟩ := hd40
      refine dg_sub (E' := [(11, (.bool true)), (14, (.bool true))]) ⟨(congrArg some d87), (congrArg some d88), trivial⟩ ?_
      refine dg_plain rfl (ow_pickT rfl rfl rfl ?_)
      exact ⟨BX.refl _ _, rfl⟩
     ·
      intro w44 D hS41 hd41
      have hl44 := Le.no M hS41
      have hC44 := hC1.no hS41
      have hd41 : PEq (.bool true) (D 12) w44 ∧ PEq (.bool true) (D 8) w44 ∧ True := hd41
      obtain ⟨d89, d90, -⟩ := hd41
      refine dg_sub (E' := [(15, (.bool true))]) ⟨(congrArg some d89), trivial⟩ ?_
      refine dg_plain rfl (ow_move rfl rfl ?_)
      exact ⟨BX.refl _ _, rfl⟩
     ·
      intro w45 D hS42 hd42
      have hl45 := Le.no M hS42
      have hC45 := hC1.no hS42
      have hd42 : PEq (.bool true) (D 13) w45 ∧ True := hd42
      obtain ⟨d91, -⟩ := hd42
      refine dg_sub (E' := [(16, (.bool true)), (1, (.pointer (some p1)))]) ⟨(congrArg some d91), rfl, trivial⟩ ?_
      refine dg_on rfl rfl rfl rfl (ow_fieldAddr rfl rfl Tryd.underlying31 rfl (Tryd.sizeOf3 _) ?_)
      exact ⟨BX.refl _ _, ⟨_, rfl, (ARep.mono hl45 (hp1.fld fld_Test_Lo))⟩⟩
     ·
      intro w46 D hS43 hd43
      have hl46 := Le.no M hS43
      have hC46 := hC1.no hS43
      have hd43 : PA RInt M a_t.Lo (D 14) w46 ∧ PEq (.bool true) (D 13) w46 ∧ True := hd43
      obtain ⟨d92, d93, -⟩ := hd43
      obtain ⟨p12, e11, ha11⟩ := d92
      refine dg_sub (E' := [(17, (.pointer (some p12))), (16, (.bool true))]) ⟨(congrArg some e11), (congrArg some d93), trivial⟩ ?_
      refine dg_on rfl rfl rfl rfl (ow_load (R := RInt) rfl rfl ha11 (Tryd.sizeOf3 _) (Tryd.isAgg3 _) fun v20 hv20 => ?_)
      obtain rfl := vint_eq hv20
      exact ⟨BX.refl _ _, rfl⟩
     ·
      intro w47 D hS44 hd44
      have hl47 := Le.no M hS44
      have hC47 := hC1.no hS44
      have hd44 : PEq (.bool true) (D 13) w47 ∧ True := hd44
      obtain ⟨d94, -⟩ := hd44
      refine dg_sub (E' := [(16, (.bool true)), (1, (.pointer (some p1)))]) ⟨(congrArg some d94), rfl, trivial⟩ ?_
      refine dg_on rfl rfl rfl rfl (ow_fieldAddr rfl rfl Tryd.underlying31 rfl (Tryd.sizeOf3 _) ?_)
      exact ⟨BX.refl _ _, ⟨_, rfl, (ARep.mono hl47 (hp1.fld fld_Test_Hi))⟩⟩
     ·
      intro w48 D hS45 hd45
      have hl48 := Le.no M hS45
      have hC48 := hC1.no hS45
      have hd45 : PA RInt M a_t.Hi (D 16) w48 ∧ PEq (.bool true) (D 13) w48 ∧ True := hd45
      obtain ⟨d95, d96, -⟩ := hd45
      obtain ⟨p13, e12, ha12⟩ := d95
      refine dg_sub (E' := [(19, (.pointer (some p13))), (16, (.bool true))]) ⟨(congrArg some e12), (congrArg some d96), trivial⟩ ?_
      refine dg_on rfl rfl rfl rfl (ow_load (R := RInt) rfl rfl ha12 (Tryd.sizeOf3 _) (Tryd.isAgg3 _) fun v21 hv21 => ?_)
      obtain rfl := vint_eq hv21
      exact ⟨BX.refl _ _, rfl⟩
     ·
      intro w49 D hS46 hd46
      have hl49 := Le.no M hS46
      have hC49 := hC1.no hS46
      have hd46 : PEq (.int .i64 a_t.Lo) (D 15) w49 ∧ PEq (.int .i64 a_t.Hi) (D 17) w49 ∧ PEq (.bool true) (D 13) w49 ∧ True := hd46
      obtain ⟨d97, d98, d99, -⟩ := hd46
      refine dg_sub (E' := [(18, (.int .i64 a_t.Lo)), (20, (.int .i64 a_t.Hi)), (16, (.bool true))]) ⟨(congrArg some d97), (congrArg some d98), (congrArg some d99), trivial⟩ ?_
      refine dg_on rfl rfl rfl rfl (ow_leq rfl rfl rfl fun bb13 hbb13 => ?_)
      obtain rfl := hbb13.trans hc4
      exact ⟨BX.refl _ _, rfl⟩
     ·
      intro w50 D hS47 hd47
      have hl50 := Le.no M hS47
      have hC50 := hC1.no hS47
      have hd47 : PEq (.bool true) (D 13) w50 ∧ PEq (.bool false) (D 18) w50 ∧ True := hd47
      obtain ⟨d100, d101, -⟩ := hd47
      refine dg_sub (E' := [(16, (.bool true)), (21, (.bool false))]) ⟨(congrArg some d100), (congrArg some d101), trivial⟩ ?_
      refine dg_plain rfl (ow_pickT rfl rfl rfl ?_)
      exact ⟨BX.refl _ _, rfl⟩
     ·
      intro w51 D hS48 hd48
      have hl51 := Le.no M hS48
      have hC51 := hC1.no hS48
      have hd48 : PEq (.bool false) (D 19) w51 ∧ PEq (.bool true) (D 13) w51 ∧ True := hd48
      obtain ⟨d102, d103, -⟩ := hd48
      refine dg_sub (E' := [(22, (.bool false))]) ⟨(congrArg some d102), trivial⟩ ?_
      refine dg_plain rfl (ow_move rfl rfl ?_)
      exact ⟨BX.refl _ _, rfl⟩
     ·
      intro w52 D hS49 hd49
      have hl52 := Le.no M hS49
      have hC52 := hC1.no hS49
      have hd49 : PEq (.bool false) (D 20) w52 ∧ True := hd49
      obtain ⟨d104, -⟩ := hd49
      refine dg_sub (E' := [(23, (.bool false)), (1, (.pointer (some p1)))]) ⟨(congrArg some d104), rfl, trivial⟩ ?_
      exact dg_off rfl rfl rfl rfl ⟨BX.refl _ _, rfl⟩
     ·
      intro w53 D hS50 hd50
      have hl53 := Le.no M hS50
      have hC53 := hC1.no hS50
      have hd50 : PEq undef (D 21) w53 ∧ PEq (.bool false) (D 20) w53 ∧ True := hd50
      obtain ⟨d105, d106, -⟩ := hd50
      refine dg_sub (E' := [(24, undef), (23, (.bool false))]) ⟨(congrArg some d105), (congrArg some d106), trivial⟩ ?_
      exact dg_off rfl rfl rfl rfl ⟨BX.refl _ _, rfl⟩
     ·
      intro w54 D hS51 hd51
      have hl54 := Le.no M hS51
      have hC54 := hC1.no hS51
      have hd51 : PEq (.bool false) (D 20) w54 ∧ True := hd51
      obtain ⟨d107, -⟩ := hd51
      refine dg_sub (E' := [(23, (.bool false)), (1, (.pointer (some p1)))]) ⟨(congrArg some d107), rfl, trivial⟩ ?_
      exact dg_off rfl rfl rfl rfl ⟨BX.refl _ _, rfl⟩
     ·
      intro w55 D hS52 hd52
      have hl55 := Le.no M hS52
      have hC55 := hC1.no hS52
      have hd52 : PEq undef (D 23) w55 ∧ PEq (.bool false) (D 20) w55 ∧ True := hd52
      obtain ⟨d108, d109, -⟩ := hd52
      refine dg_sub (E' := [(26, undef), (23, (.bool false))]) ⟨(congrArg some d108), (congrArg some d109), trivial⟩ ?_
      exact dg_off rfl rfl rfl rfl ⟨BX.refl _ _, rfl⟩
     ·
      intro w56 D hS53 hd53
      have hl56 := Le.no M hS53
      have hC56 := hC1.no hS53
      have hd53 : PEq undef (D 24) w56 ∧ PEq (.bool false) (D 20) w56 ∧ PEq (.bool false) (D 20) w56 ∧ True := hd53
      obtain ⟨d110, d111, d112, -⟩ := hd53
      refine dg_sub (E' := [(27, undef), (23, (.bool false))]) ⟨(congrArg some d110), (congrArg some d111), trivial⟩ ?_
      exact dg_off rfl rfl rfl rfl ⟨BX.refl _ _, rfl⟩
     ·
      intro w57 D hS54 hd54
      have hd54 : PA RInt M a_t.Field (D 0) w57 ∧ PEq (.int .i64 a_t.Field) (D 1) w57 ∧ PEq (.bool true) (D 2) w57 ∧ PEq (.bool true) (D 3) w57 ∧ PA RInt M a_t.Field (D 4) w57 ∧ PEq (.int .i64 a_t.Field) (D 5) w57 ∧ PEq (.bool true) (D 6) w57 ∧ PEq (.bool true) (D 7) w57 ∧ PEq (.bool true) (D 8) w57 ∧ PA RInt M a_t.Lo (D 9) w57 ∧ PEq (.int .i64 a_t.Lo) (D 10) w57 ∧ PEq (.bool true) (D 11) w57 ∧ PEq (.bool true) (D 12) w57 ∧ PEq (.bool true) (D 13) w57 ∧ PA RInt M a_t.Lo (D 14) w57 ∧ PEq (.int .i64 a_t.Lo) (D 15) w57 ∧ PA RInt M a_t.Hi (D 16) w57 ∧ PEq (.int .i64 a_t.Hi) (D 17) w57 ∧ PEq (.bool false) (D 18) w57 ∧ PEq (.bool false) (D 19) w57 ∧ PEq (.bool false) (D 20) w57 ∧ PEq undef (D 21) w57 ∧ PEq undef (D 22) w57 ∧ PEq undef (D 23) w57 ∧ PEq undef (D 24) w57 ∧ PEq undef (D 25) w57 ∧ True := hd54
      obtain ⟨-, -, -, -, -, -, -, -, -, -, -, -, -, -, -, -, -, -, -, -, d133, -, d135, -, -, d138, -⟩ := hd54
      have hl57 := Le.no M hS54
      have hC57 := hC1.no hS54
      refine lw_sub (E' := [(23, (.bool false)), (25, undef), (28, undef), (1, (.pointer (some p1))), (2, (.bool false))]) ⟨(congrArg some d133), (congrArg some d135), (congrArg some d138), rfl, rfl, trivial⟩ ?_
      refine lw_off rfl rfl rfl rfl rfl rfl ?_
      refine lw_op rfl rfl rfl (ow_pickF rfl rfl rfl ?_)
      refine lw_op rfl rfl rfl (ow_assign rfl rfl ?_)
      refine lw_nil (ew_then (cw_ret ?_))
      obtain rfl := Option.some.inj h
      exact ew_ret (res1 rfl (.tmp rfl)) ⟨_, rfl, ((vbool _)), hC57.bx⟩
   ·
    refine cw_sub (E' := [(1, (.pointer (some p1))), (2, (.bool false))]) ⟨rfl, rfl, trivial⟩ ?_
    refine cw_drawQ 26 [PA RInt M a_t.Field, PEq (.int .i64 a_t.Field), PEq (.bool true), PEq (.bool true), PA RInt M a_t.Field, PEq (.int .i64 a_t.Field), PEq (.bool true), PEq (.bool true), PEq (.bool true), PA RInt M a_t.Lo, PEq (.int .i64 a_t.Lo), PEq (.bool false), PEq (.bool false), PEq (.bool false), PEq undef, PEq undef, PEq undef, PEq undef, PEq undef, PEq (.bool false), PEq (.bool false), PEq undef, PEq undef, PEq undef, PEq undef, PEq undef] (by kernel_rfl) rfl (by kernel_rfl) ⟨PA.mono _ _ _, PEq.mono _, PEq.mono _, PEq.mono _, PA.mono _ _ _, PEq.mono _, PEq.mono _, PEq.mono _, PEq.mono _, PA.mono _ _ _, PEq.mono _, PEq.mono _, PEq.mono _, PEq.mono _, PEq.mono _, PEq.mono _, PEq.mono _, PEq.mono _, PEq.mono _, PEq.mono _, PEq.mono _, PEq.mono _, PEq.mono _, PEq.mono _, PEq.mono _, PEq.mono _, trivial⟩ ⟨?_, ?_, ?_, ?_, ?_, ?_, ?_, ?_, ?_, ?_, ?_, ?_, ?_, ?_, ?_, ?_, ?_, ?_, ?_, ?_, ?_, ?_, ?_, ?_, ?_, ?_, trivial⟩ ?_
    ·
     intro w58 D hS55 hd55
     have hl58 := Le.no M hS55
     have hC58 := hC1.no hS55
     refine dg_sub (E' := [(1, (.pointer (some p1)))]) ⟨rfl, trivial⟩ ?_
     refine dg_plain rfl (ow_fieldAddr rfl rfl Tryd.underlying31 rfl (Tryd.sizeOf3 _) ?_)
     exact ⟨BX.refl _ _, ⟨_, rfl, (ARep.mono hl58 (hp1.fld fld_Test_Field))⟩⟩
    ·
     intro w59 D hS56 hd56
     have hl59 := Le.no M hS56
     have hC59 := hC1.no hS56
     have hd56 : PA RInt M a_t.Field (D 0) w59 ∧ True := hd56
     obtain ⟨d139, -⟩ := hd56
     obtain ⟨p14, e13, ha13⟩ := d139
     refine dg_sub (E' := [(3, (.pointer (some p14)))]) ⟨(congrArg some e13), trivial⟩ ?_
     refine dg_plain rfl (ow_load (R := RInt) rfl rfl ha13 (Tryd.sizeOf3 _) (Tryd.isAgg3 _) fun v22 hv22 => ?_)
     obtain rfl := vint_eq hv22
     exact ⟨BX.refl _ _, rfl⟩
    ·
     intro w60 D hS57 hd57
     have hl60 := Le.no M hS57
     have hC60 := hC1.no hS57
     have hd57 : PEq (.int .i64 a_t.Field) (D 1) w60 ∧ True := hd57
     obtain ⟨d140, -⟩ := hd57
     refine dg_sub (E' := [(4, (.int .i64 a_t.Field))]) ⟨(congrArg some d140), trivial⟩ ?_
     refine dg_plain rfl (ow_geq rfl rfl rfl fun bb14 hbb14 => ?_)
     obtain rfl := hbb14.trans hc1
     exact ⟨BX.refl _ _, rfl⟩
    ·
     intro w61 D hS58 hd58
     have hl61 := Le.no M hS58
     have hC61 := hC1.no hS58
     have hd58 : PEq (.bool true) (D 2) w61 ∧ True := hd58
     obtain ⟨d141, -⟩ := hd58
     refine dg_sub (E' := [(5, (.bool true))]) ⟨(congrArg some d141), trivial⟩ ?_
     refine dg_plain rfl (ow_move rfl rfl ?_)
     exact ⟨BX.refl _ _, rfl⟩
    ·
     intro w62 D hS59 hd59
     have hl62 := Le.no M hS59
     have hC62 := hC1.no hS59
     have hd59 : PEq (.bool true) (D 3) w62 ∧ True := hd59
     obtain ⟨d142, -⟩ := hd59
     refine dg_sub (E' := [(6, (.bool true)), (1, (.pointer (some p1)))]) ⟨(congrArg some d142), rfl, trivial⟩ ?_
     refine dg_on rfl rfl rfl rfl (ow_fieldAddr rfl rfl Tryd.underlying31 rfl (Tryd.sizeOf3 _) ?_)
     exact ⟨BX.refl _ _, ⟨_, rfl, (ARep.mono hl62 (hp1.fld fld_Test_Field))⟩⟩
    ·
     intro w63 D hS60 hd60
     have hl63 := Le.no M hS60
     have hC63 := hC1.no hS60
     have hd60 : PA RInt M a_t.Field (D 4) w63 ∧ PEq (.bool true) (D 3) w63 ∧ True := hd60
     obtain ⟨d143, d144, -⟩ := hd60
     obtain ⟨p15, e14, ha14⟩ := d143
     refine dg_sub (E' := [(7, (.pointer (some p15))), (6, (.bool true))]) ⟨(congrArg some e14), (congrArg some d144), trivial⟩ ?_
     refine dg_on rfl rfl rfl rfl (ow_load (R := RInt) rfl rfl ha14 (Tryd.sizeOf3 _) (Tryd.isAgg3 _) fun v23 hv23 => ?_)
     obtain rfl := vint_eq hv23
     exact ⟨BX.refl _ _, rfl⟩
    ·
     intro w64 D hS61 hd61
     have hl64 := Le.no M hS61
     have hC64 := hC1.no hS61
     have hd61 : PEq (.int .i64 a_t.Field) (D 5) w64 ∧ PEq (.bool true) (D 3) w64 ∧ True := hd61
     obtain ⟨d145, d146, -⟩ := hd61
     refine dg_sub (E' := [(8, (.int .i64 a_t.Field)), (6, (.bool true))]) ⟨(congrArg some d145), (congrArg some d146), trivial⟩ ?_
     refine dg_on rfl rfl rfl rfl (ow_lss rfl rfl rfl fun bb15 hbb15 => ?_)
     obtain rfl := hbb15.trans hc2
     exact ⟨BX.refl _ _, rfl⟩
    ·
     intro w65 D hS62 hd62
     have hl65 := Le.no M hS62
     have hC65 := hC1.no hS62
     have hd62 : PEq (.bool true) (D 3) w65 ∧ PEq (.bool true) (D 6) w65 ∧ True := hd62
     obtain ⟨d147, d148, -⟩ := hd62
     refine dg_sub (E' := [(6, (.bool true)), (9, (.bool true))]) ⟨(congrArg some d147), (congrArg some d148), trivial⟩ ?_
     refine dg_plain rfl (ow_pickT rfl rfl rfl ?_)
     exact ⟨BX.refl _ _, rfl⟩
    ·
     intro w66 D hS63 hd63
     have hl66 := Le.no M hS63
     have hC66 := hC1.no hS63
     have hd63 : PEq (.bool true) (D 7) w66 ∧ PEq (.bool true) (D 3) w66 ∧ True := hd63
     obtain ⟨d149, d150, -⟩ := hd63
     refine dg_sub (E' := [(10, (.bool true))]) ⟨(congrArg some d149), trivial⟩ ?_
     refine dg_plain rfl (ow_move rfl rfl ?_)
     exact ⟨BX.refl _ _, rfl⟩
    ·
     intro w67 D hS64 hd64
     have hl67 := Le.no M hS64
     have hC67 := hC1.no hS64
     have hd64 : PEq (.bool true) (D 8) w67 ∧ True := hd64
     obtain ⟨d151, -⟩ := hd64
     refine dg_sub (E' := [(11, (.bool true)), (1, (.pointer (some p1)))]) ⟨(congrArg some d151), rfl, trivial⟩ ?_
     refine dg_on rfl rfl rfl rfl (ow_fieldAddr rfl rfl Tryd.underlying31 rfl (Tryd.sizeOf3 _) ?_)
     exact ⟨BX.refl _ _, ⟨_, rfl, (ARep.mono hl67 (hp1.fld fld_Test_Lo))⟩⟩
    ·
     intro w68 D hS65 hd65
     have hl68 := Le.no M hS65
     have hC68 := hC1.no hS65
     have hd65 : PA RInt M a_t.Lo (D 9) w68 ∧ PEq (.bool true) (D 8) w68 ∧ True := hd65
     obtain ⟨d152, d153, -⟩ := hd65
     obtain ⟨p16, e15, ha15⟩ := d152
     refine dg_sub (E' := [(12, (.pointer (some p16))), (11, (.bool true))]) ⟨(congrArg some e15), (congrArg some d153), trivial⟩ ?_
     refine dg_on rfl rfl rfl rfl (ow_load (R := RInt) rfl rfl ha15 (Tryd.sizeOf3 _) (Tryd.isAgg3 _) fun v24 hv24 => ?_)
     obtain rfl := vint_eq hv24
     exact ⟨BX.refl _ _, rfl⟩
    ·
     intro w69 D hS66 hd66
     have hl69 := Le.no M hS66
     have hC69 := hC1.no hS66
     have hd66 : PEq (.int .i64 a_t.Lo) (D 10) w69 ∧ PEq (.bool true) (D 8) w69 ∧ True := hd66
     obtain ⟨d154, d155, -⟩ := hd66
     refine dg_sub (E' := [(13, (.int .i64 a_t.Lo)), (11, (.bool true))]) ⟨(congrArg some d154), (congrArg some d155), trivial⟩ ?_
     refine dg_on rfl rfl rfl rfl (ow_geq rfl rfl rfl fun bb16 hbb16 => ?_)
     obtain rfl := hbb16.trans hc3
     exact ⟨BX.refl _ _, rfl⟩
    ·
     intro w70 D hS67 hd67
     have hl70 := Le.no M hS67
     have hC70 := hC1.no hS67
     have hd67 : PEq (.bool true) (D 8) w70 ∧ PEq (.bool false) (D 11) w70 ∧ True := hd67
     obtain ⟨d156, d157, -⟩ := hd67
     refine dg_sub (E' := [(11, (.bool true)), (14, (.bool false))]) ⟨(congrArg some d156), (congrArg some d157), trivial⟩ ?_
     refine dg_plain rfl (ow_pickT rfl rfl rfl ?_)
     exact ⟨BX.refl _ _, rfl⟩
    ·
     intro w71 D hS68 hd68
     have hl71 := Le.no M hS68
     have hC71 := hC1.no hS68
     have hd68 : PEq (.bool false) (D 12) w71 ∧ PEq (.bool true) (D 8) w71 ∧ True := hd68
     obtain ⟨d158, d159, -⟩ := hd68
     refine dg_sub (E' := [(15, (.bool false))]) ⟨(congrArg some d158), trivial⟩ ?_
     refine dg_plain rfl (ow_move rfl rfl ?_)
     exact ⟨BX.refl _ _, rfl⟩
    ·
     intro w72 D hS69 hd69
     have hl72 := Le.no M hS69
     have hC72 := hC1.no hS69
     have hd69 : PEq (.bool false) (D 13) w72 ∧ True := hd69
     obtain ⟨d160, -⟩ := hd69
     refine dg_sub (E' := [(16, (.bool false)), (1, (.pointer (some p1)))]) ⟨(congrArg some d160), rfl, trivial⟩ ?_
     exact dg_off rfl rfl rfl rfl ⟨BX.refl _ _, rfl⟩
    ·
     intro w73 D hS70 hd70
     have hl73 := Le.no M hS70
     have hC73 := hC1.no hS70
     have hd70 : PEq undef (D 14) w73 ∧ PEq (.bool false) (D 13) w73 ∧ True := hd70
     obtain ⟨d161, d162, -⟩ := hd70
     refine dg_sub (E' := [(17, undef), (16, (.bool false))]) ⟨(congrArg some d161), (congrArg some d162), trivial⟩ ?_
     exact dg_off rfl rfl rfl rfl ⟨BX.refl _ _, rfl⟩
    ·
     intro w74 D hS71 hd71
     have hl74 := Le.no M hS71
     have hC74 := hC1.no hS71
     have hd71 : PEq (.bool false) (D 13) w74 ∧ True := hd71
     obtain ⟨d163, -⟩ := hd71
     refine dg_sub (E' := [(16, (.bool false)), (1, (.pointer (some p1)))]) ⟨(congrArg some d163), rfl, trivial⟩ ?_
     exact dg_off rfl rfl rfl rfl ⟨BX.refl _ _, rfl⟩
    ·
     intro w75 D hS72 hd72
     have hl75 := Le.no M hS72
     have hC75 := hC1.no hS72
     have hd72 : PEq undef (D 16) w75 ∧ PEq (.bool false) (D 13) w75 ∧ True := hd72
     obtain ⟨d164, d165, -⟩ := hd72
     refine dg_sub (E' := [(19, undef), (16, (.bool false))]) ⟨(congrArg some d164), (congrArg some d165), trivial⟩ ?_
     exact dg_off rfl rfl rfl rfl ⟨BX.refl _ _, rfl⟩
    ·
     intro w76 D hS73 hd73
     have hl76 := Le.no M hS73
     have hC76 := hC1.no hS73
     have hd73 : PEq undef (D 15) w76 ∧ PEq undef (D 17) w76 ∧ PEq (.bool false) (D 13) w76 ∧ True := hd73
     obtain ⟨d166, d167, d168, -⟩ := hd73
     refine dg_sub (E' := [(18, undef), (20, undef), (16, (.bool false))]) ⟨(congrArg some d166), (congrArg some d167), (congrArg some d168), trivial⟩ ?_
     exact dg_off rfl rfl rfl rfl ⟨BX.refl _ _, rfl⟩
    ·
     intro w77 D hS74 hd74
     have hl77 := Le.no M hS74
     have hC77 := hC1.no hS74
     have hd74 : PEq (.bool false) (D 13) w77 ∧ PEq undef (D 18) w77 ∧ True := hd74
     obtain ⟨d169, d170, -⟩ := hd74
     refine dg_sub (E' := [(16, (.bool false)), (21, undef)]) ⟨(congrArg some d169), (congrArg some d170), trivial⟩ ?_
     refine dg_plain rfl (ow_pickF rfl rfl rfl ?_)
     exact ⟨BX.refl _ _, rfl⟩
    ·
     intro w78 D hS75 hd75
     have hl78 := Le.no M hS75
     have hC78 := hC1.no hS75
     have hd75 : PEq (.bool false) (D 19) w78 ∧ PEq (.bool false) (D 13) w78 ∧ True := hd75
     obtain ⟨d171, d172, -⟩ := hd75
     refine dg_sub (E' := [(22, (.bool false))]) ⟨(congrArg some d171), trivial⟩ ?_
     refine dg_plain rfl (ow_move rfl rfl ?_)
     exact ⟨BX.refl _ _, rfl⟩
    ·
     intro w79 D hS76 hd76
     have hl79 := Le.no M hS76
     have hC79 := hC1.no hS76
     have hd76 : PEq (.bool false) (D 20) w79 ∧ True := hd76
     obtain ⟨d173, -⟩ := hd76
     refine dg_sub (E' := [(23, (.bool false)), (1, (.pointer (some p1)))]) ⟨(congrArg some d173), rfl, trivial⟩ ?_
     exact dg_off rfl rfl rfl rfl ⟨BX.refl _ _, rfl⟩
    ·
     intro w80 D hS77 hd77
     have hl80 := Le.no M hS77
     have hC80 := hC1.no hS77
     have hd77 : PEq undef (D 21) w80 ∧ PEq (.bool false) (D 20) w80 ∧ True := hd77
     obtain ⟨d174, d175, -⟩ := hd77
     refine dg_sub (E' := [(24, undef), (23, (.bool false))]) ⟨(congrArg some d174), (congrArg some d175), trivial⟩ ?_
     exact dg_off rfl rfl rfl rfl ⟨BX.refl _ _, rfl⟩
    ·
     intro w81 D hS78 hd78
     have hl81 := Le.no M hS78
     have hC81 := hC1.no hS78
     have hd78 : PEq (.bool false) (D 20) w81 ∧ True := hd78
     obtain ⟨d176, -⟩ := hd78
     refine dg_sub (E' := [(23, (.bool false)), (1, (.pointer (some p1)))]) ⟨(congrArg some d176), rfl, trivial⟩ ?_
     exact dg_off rfl rfl rfl rfl ⟨BX.refl _ _, rfl⟩
    ·
     intro w82 D hS79 hd79
     have hl82 := Le.no M hS79
     have hC82 := hC1.no hS79
     have hd79 : PEq undef (D 23) w82 ∧ PEq (.bool false) (D 20) w82 ∧ True := hd79
     obtain ⟨d177, d178, -⟩ := hd79
     refine dg_sub (E' := [(26, undef), (23, (.bool false))]) ⟨(congrArg some d177), (congrArg some d178), trivial⟩ ?_
     exact dg_off rfl rfl rfl rfl ⟨BX.refl _ _, rfl⟩
    ·
     intro w83 D hS80 hd80
     have hl83 := Le.no M hS80
     have hC83 := hC1.no hS80
     have hd80 : PEq undef (D 24) w83 ∧ PEq (.bool false) (D 20) w83 ∧ PEq (.bool false) (D 20) w83 ∧ True := hd80
     obtain ⟨d179, d180, d181, -⟩ := hd80
     refine dg_sub (E' := [(27, undef), (23, (.bool false))]) ⟨(congrArg some d179), (congrArg some d180), trivial⟩ ?_
     exact dg_off rfl rfl rfl rfl ⟨BX.refl _ _, rfl⟩
    ·
     intro w84 D hS81 hd81
     have hd81 : PA RInt M a_t.Field (D 0) w84 ∧ PEq (.int .i64 a_t.Field) (D 1) w84 ∧ PEq (.bool true) (D 2) w84 ∧ PEq (.bool true) (D 3) w84 ∧ PA RInt M a_t.Field (D 4) w84 ∧ PEq (.int .i64 a_t.Field) (D 5) w84 ∧ PEq (.bool true) (D 6) w84 ∧ PEq (.bool true) (D 7) w84 ∧ PEq (.bool true) (D 8) w84 ∧ PA RInt M a_t.Lo (D 9) w84 ∧ PEq (.int .i64 a_t.Lo) (D 10) w84 ∧ PEq (.bool false) (D 11) w84 ∧ PEq (.bool false) (D 12) w84 ∧ PEq (.bool false) (D 13) w84 ∧ PEq undef (D 14) w84 ∧ PEq undef (D 15) w84 ∧ PEq undef (D 16) w84 ∧ PEq undef (D 17) w84 ∧ PEq undef (D 18) w84 ∧ PEq (.bool false) (D 19) w84 ∧ PEq (.bool false) (D 20) w84 ∧ PEq undef (D 21) w84 ∧ PEq undef (D 22) w84 ∧ PEq undef (D 23) w84 ∧ PEq undef (D 24) w84 ∧ PEq undef (D 25) w84 ∧ True := hd81
     obtain ⟨-, -, -, -, -, -, -, -, -, -, -, -, -, -, -, -, -, -, -, -, d202, -, d204, -, -, d207, -⟩ := hd81
     have hl84 := Le.no M hS81
     have hC84 := hC1.no hS81
     refine lw_sub (E' := [(23, (.bool false)), (25, undef), (28, undef), (1, (.pointer (some p1))), (2, (.bool false))]) ⟨(congrArg some d202), (congrArg some d204), (congrArg some d207), rfl, rfl, trivial⟩ ?_
     refine lw_off rfl rfl rfl rfl rfl rfl ?_
     refine lw_op rfl rfl rfl (ow_pickF rfl rfl rfl ?_)
     refine lw_op rfl rfl rfl (ow_assign rfl rfl ?_)
     refine lw_nil (ew_then (cw_ret ?_))
     obtain rfl := Option.some.inj h
     exact ew_ret (res1 rfl (.tmp rfl)) ⟨_, rfl, ((vbool _)), hC84.bx⟩
  ·
   refine cw_sub (E' := [(1, (.pointer (some p1))), (2, (.bool false))]) ⟨rfl, rfl, trivial⟩ ?_
   refine cw_drawQ 26 [PA RInt M a_t.Field, PEq (.int .i64 a_t.Field), PEq (.bool true), PEq (.bool true), PA RInt M a_t.Field, PEq (.int .i64 a_t.Field), PEq (.bool false), PEq (.bool false), PEq (.bool false), PEq undef, PEq undef, PEq undef, PEq (.bool false), PEq (.bool false), PEq undef, PEq undef, PEq undef, PEq undef, PEq undef, PEq (.bool false), PEq (.bool false), PEq undef, PEq undef, PEq undef, PEq undef, PEq undef] (by kernel_rfl) rfl (by kernel_rfl) ⟨PA.mono _ _ _, PEq.mono _, PEq.mono _, PEq.mono _, PA.mono _ _ _, PEq.mono _, PEq.mono _, PEq.mono _, PEq.mono _, PEq.mono _, PEq.mono _, PEq.mono _, PEq.mono _, PEq.mono _, PEq.mono _, PEq.mono _, PEq.mono _, PEq.mono _, PEq.mono _, PEq.mono _, PEq.mono _, PEq.mono _, PEq.mono _, PEq.mono _, PEq.mono _, PEq.mono _, trivial⟩ ⟨?_, ?_, ?_, ?_, ?_, ?_, ?_, ?_, ?_, ?_, ?_, ?_, ?_, ?_, ?_, ?_, ?_, ?_, ?_, ?_, ?_, ?_, ?_, ?_, ?_, ?_, trivial⟩ ?_
   ·
    intro w85 D hS82 hd82
    have hl85 := Le.no M hS82
    have hC85 := hC1.no hS82
    refine dg_sub (E' := [(1, (.pointer (some p1)))]) ⟨rfl, trivial⟩ ?_
    refine dg_plain rfl (ow_fieldAddr rfl rfl Tryd.underlying31 rfl (Tryd.sizeOf3 _) ?_)
    exact ⟨BX.refl _ _, ⟨_, rfl, (ARep.mono hl85 (hp1.fld fld_Test_Field))⟩⟩
   ·
    intro w86 D hS83 hd83
    have hl86 := Le.no M hS83
    have hC86 := hC1.no hS83
    have hd83 : PA RInt M a_t.Field (D 0) w86 ∧ True := hd83
    obtain ⟨d208, -⟩ := hd83
    obtain ⟨p17, e16, ha16⟩ := d208
    refine dg_sub (E' := [(3, (.pointer (some p17)))]) ⟨(congrArg some e16), trivial⟩ ?_
    refine dg_plain rfl (ow_load (R := RInt) rfl rfl ha16 (Tryd.sizeOf3 _) (Tryd.isAgg3 _) fun v25 hv25 => ?_)
    obtain rfl := vint_eq hv25
    exact ⟨BX.refl _ _, rfl⟩
   ·
    intro w87 D hS84 hd84
    have hl87 := Le.no M hS84
    have hC87 := hC1.no hS84
    have hd84 : PEq (.int .i64 a_t.Field) (D 1) w87 ∧ True := hd84
    obtain ⟨d209, -⟩ := hd84
    refine dg_sub (E' := [(4, (.int .i64 a_t.Field))]) ⟨(congrArg some d209), trivial⟩ ?_
    refine dg_plain rfl (ow_geq rfl rfl rfl fun bb17 hbb17 => ?_)
    obtain rfl := hbb17.trans hc1
    exact ⟨BX.refl _ _, rfl⟩
   ·
    intro w88 D hS85 hd85
    have hl88 := Le.no M hS85
    have hC88 := hC1.no hS85
    have hd85 : PEq (.bool true) (D 2) w88 ∧ True := hd85
    obtain ⟨d210, -⟩ := hd85
    refine dg_sub (E' := [(5, (.bool true))]) ⟨(congrArg some d210), trivial⟩ ?_
    refine dg_plain rfl (ow_move rfl rfl ?_)
    exact ⟨BX.refl _ _, rfl⟩
   ·
    intro w89 D hS86 hd86
    have hl89 := Le.no M hS86
    have hC89 := hC1.no hS86
    have hd86 : PEq (.bool true) (D 3) w89 ∧ True := hd86
    obtain ⟨d211, -⟩ := hd86
    refine dg_sub (E' := [(6, (.bool true)), (1, (.pointer (some p1)))]) ⟨(congrArg some d211), rfl, trivial⟩ ?_
    refine dg_on rfl rfl rfl rfl (ow_fieldAddr rfl rfl Tryd.underlying31 rfl (Tryd.sizeOf3 _) ?_)
    exact ⟨BX.refl _ _, ⟨_, rfl, (ARep.mono hl89 (hp1.fld fld_Test_Field))⟩⟩
   ·
    intro w90 D hS87 hd87
    have hl90 := Le.no M hS87
    have hC90 := hC1.no hS87
    have hd87 : PA RInt M a_t.Field (D 4) w90 ∧ PEq (.bool true) (D 3) w90 ∧ True := hd87
    obtain ⟨d212, d213, -⟩ := hd87
    obtain ⟨p18, e17, ha17⟩ := d212
    refine dg_sub (E' := [(7, (.pointer (some p18))), (6, (.bool true))]) ⟨(congrArg some e17), (congrArg some d213), trivial⟩ ?_
    refine dg_on rfl rfl rfl rfl (ow_load (R := RInt) rfl rfl ha17 (Tryd.sizeOf3 _) (Tryd.isAgg3 _) fun v26 hv26 => ?_)
    obtain rfl := vint_eq hv26
    exact ⟨BX.refl _ _, rfl⟩
   ·
    intro w91 D hS88 hd88
    have hl91 := Le.no M hS88
    have hC91 := hC1.no hS88
    have hd88 : PEq (.int .i64 a_t.Field) (D 5) w91 ∧ PEq (.bool true) (D 3) w91 ∧ True := hd88
    obtain ⟨d214, d215, -⟩ := hd88
    refine dg_sub (E' := [(8, (.int .i64 a_t.Field)), (6, (.bool true))]) ⟨(congrArg some d214), (congrArg some d215), trivial⟩ ?_
    refine dg_on rfl rfl rfl rfl (ow_lss rfl rfl rfl fun bb18 hbb18 => ?_)
    obtain rfl := hbb18.trans hc2
    exact ⟨BX.refl _ _, rfl⟩
   ·
    intro w92 D hS89 hd89
    have hl92 := Le.no M hS89
    have hC92 := hC1.no hS89
    have hd89 : PEq (.bool true) (D 3) w92 ∧ PEq (.bool false) (D 6) w92 ∧ True := hd89
    obtain ⟨d216, d217, -⟩ := hd89
    refine dg_sub (E' := [(6, (.bool true)), (9, (.bool false))]) ⟨(congrArg some d216), (congrArg some d217), trivial⟩ ?_
    refine dg_plain rfl (ow_pickT rfl rfl rfl ?_)
    exact ⟨BX.refl _ _, rfl⟩
   ·
    intro w93 D hS90 hd90
    have hl93 := Le.no M hS90
    have hC93 := hC1.no hS90
    have hd90 : PEq (.bool false) (D 7) w93 ∧ PEq (.bool true) (D 3) w93 ∧ True := hd90
    obtain ⟨d218, d219, -⟩ := hd90
    refine dg_sub (E' := [(10, (.bool false))]) ⟨(congrArg some d218), trivial⟩ ?_
    refine dg_plain rfl (ow_move rfl rfl ?_)
    exact ⟨BX.refl _ _, rfl⟩
   ·
    intro w94 D hS91 hd91
    have hl94 := Le.no M hS91
    have hC94 := hC1.no hS91
    have hd91 : PEq (.bool false) (D 8) w94 ∧ True := hd91
    obtain ⟨d220, -⟩ := hd91
    refine dg_sub (E' := [(11, (.bool false)), (1, (.pointer (some p1)))]) ⟨(congrArg some d220), rfl, trivial⟩ ?_
    exact dg_off rfl rfl rfl rfl ⟨BX.refl _ _, rfl⟩
   ·
    intro w95 D hS92 hd92
    have hl95 := Le.no M hS92
    have hC95 := hC1.no hS92
    have hd92 : PEq undef (D 9) w95 ∧ PEq (.bool false) (D 8) w95 ∧ True := hd92
    obtain ⟨d221, d222, -⟩ := hd92
    refine dg_sub (E' := [(12, undef), (11, (.bool false))]) ⟨(congrArg some d221), (congrArg some d222), trivial⟩ ?_
    exact dg_off rfl rfl rfl rfl ⟨BX.refl _ _, rfl⟩
   ·
    intro w96 D hS93 hd93
    have hl96 := Le.no M hS93
    have hC96 := hC1.no hS93
    have hd93 : PEq undef (D 10) w96 ∧ PEq (.bool false) (D 8) w96 ∧ True := hd93
    obtain ⟨d223, d224, -⟩ := hd93
    refine dg_sub (E' := [(13, undef), (11, (.bool false))]) ⟨(congrArg some d223), (congrArg some d224), trivial⟩ ?_
    exact dg_off rfl rfl rfl rfl ⟨BX.refl _ _, rfl⟩
   ·
    intro w97 D hS94 hd94
    have hl97 := Le.no M hS94
    have hC97 := hC1.no hS94
    have hd94 : PEq (.bool false) (D 8) w97 ∧ PEq undef (D 11) w97 ∧ True := hd94
    obtain ⟨d225, d226, -⟩ := hd94
    refine dg_sub (E' := [(11, (.bool false)), (14, undef)]) ⟨(congrArg some d225), (congrArg some d226), trivial⟩ ?_
    refine dg_plain rfl (ow_pickF rfl rfl rfl ?_)
    exact ⟨BX.refl _ _, rfl⟩
   ·
    intro w98 D hS95 hd95
    have hl98 := Le.no M hS95
    have hC98 := hC1.no hS95
    have hd95 : PEq (.bool false) (D 12) w98 ∧ PEq (.bool false) (D 8) w98 ∧ True := hd95
    obtain ⟨d227, d228, -⟩ := hd95
    refine dg_sub (E' := [(15, (.bool false))]) ⟨(congrArg some d227), trivial⟩ ?_
    refine dg_plain rfl (ow_move rfl rfl ?_)
    exact ⟨BX.refl _ _, rfl⟩
   ·
    intro w99 D hS96 hd96
    have hl99 := Le.no M hS96
    have hC99 := hC1.no hS96
    have hd96 : PEq (.bool false) (D 13) w99 ∧ True := hd96
    obtain ⟨d229, -⟩ := hd96
    refine dg_sub (E' := [(16, (.bool false)), (1, (.pointer (some p1)))]) ⟨(congrArg some d229), rfl, trivial⟩ ?_
    exact dg_off rfl rfl rfl rfl ⟨BX.refl _ _, rfl⟩
   ·
    intro w100 D hS97 hd97
    have hl100 := Le.no M hS97
    have hC100 := hC1.no hS97
    have hd97 : PEq undef (D 14) w100 ∧ PEq (.bool false) (D 13) w100 ∧ True := hd97
    obtain ⟨d230, d231, -⟩ := hd97
    refine dg_sub (E' := [(17, undef), (16, (.bool false))]) ⟨(congrArg some d230), (congrArg some d231), trivial⟩ ?_
    exact dg_off rfl rfl rfl rfl ⟨BX.refl _ _, rfl⟩
   ·
    intro w101 D hS98 hd98
    have hl101 := Le.no M hS98
    have hC101 := hC1.no hS98
    have hd98 : PEq (.bool false) (D 13) w101 ∧ True := hd98
    obtain ⟨d232, -⟩ := hd98
    refine dg_sub (E' := [(16, (.bool false)), (1, (.pointer (some p1)))]) ⟨(congrArg some d232), rfl, trivial⟩ ?_
    exact dg_off rfl rfl rfl rfl ⟨BX.refl _ _, rfl⟩
   ·
    intro w102 D hS99 hd99
    have hl102 := Le.no M hS99
    have hC102 := hC1.no hS99
    have hd99 : PEq undef (D 16) w102 ∧ PEq (.bool false) (D 13) w102 ∧ True := hd99
    obtain ⟨d233, d234, -⟩ := hd99
    refine dg_sub (E' := [(19, undef), (16, (.bool false))]) ⟨(congrArg some d233), (congrArg some d234), trivial⟩ ?_
    exact dg_off rfl rfl rfl rfl ⟨BX.refl _ _, rfl⟩
   ·
    intro w103 D hS100 hd100
    have hl103 := Le.no M hS100
    have hC103 := hC1.no hS100
    have hd100 : PEq undef (D 15) w103 ∧ PEq undef (D 17) w103 ∧ PEq (.bool false) (D 13) w103 ∧ True := hd100
    obtain ⟨d235, d236, d237, -⟩ := hd100
    refine dg_sub (E' := [(18, undef), (20, undef), (16, (.bool false))]) ⟨(congrArg some d235), (congrArg some d236), (congrArg some d237), trivial⟩ ?_
    exact dg_off rfl rfl rfl rfl ⟨BX.refl _ _, rfl⟩
   ·
    intro w104 D hS101 hd101
    have hl104 := Le.no M hS101
    have hC104 := hC1.no hS101
    have hd101 : PEq (.bool false) (D 13) w104 ∧ PEq undef (D 18) w104 ∧ True := hd101
    obtain ⟨d238, d239, -⟩ := hd101
    refine dg_sub (E' := [(16, (.bool false)), (21, undef)]) ⟨(congrArg some d238), (congrArg some d239), trivial⟩ ?_
    refine dg_plain rfl (ow_pickF rfl rfl rfl ?_)
    exact ⟨BX.refl _ _, rfl⟩
   ·
    intro w105 D hS102 hd102
    have hl105 := Le.no M hS102
    have hC105 := hC1.no hS102
    have hd102 : PEq (.bool false) (D 19) w105 ∧ PEq (.bool false) (D 13) w105 ∧ True := hd102
    obtain ⟨d240, d241, -⟩ := hd102
    refine dg_sub (E' := [(22, (.bool false))]) ⟨(congrArg some d240), trivial⟩ ?_
    refine dg_plain rfl (ow_move rfl rfl ?_)
    exact ⟨BX.refl _ _, rfl⟩
   ·
    intro w106 D hS103 hd103
    have hl106 := Le.no M hS103
    have hC106 := hC1.no hS103
    have hd103 : PEq (.bool false) (D 20) w106 ∧ True := hd103
    obtain ⟨d242, -⟩ := hd103
    refine dg_sub (E' := [(23, (.bool false)), (1, (.pointer (some p1)))]) ⟨(congrArg some d242), rfl, trivial⟩ ?_
    exact dg_off rfl rfl rfl rfl ⟨BX.refl _ _, rfl⟩
   ·
    intro w107 D hS104 hd104
    have hl107 := Le.no M hS104
    have hC107 := hC1.no hS104
    have hd104 : PEq undef (D 21) w107 ∧ PEq (.bool false) (D 20) w107 ∧ True := hd104
    obtain ⟨d243, d244, -⟩ := hd104
    refine dg_sub (E' := [(24, undef), (23, (.bool false))]) ⟨(congrArg some d243), (congrArg some d244), trivial⟩ ?_
    exact dg_off rfl rfl rfl rfl ⟨BX.refl _ _, rfl⟩
   ·
    intro w108 D hS105 hd105
    have hl108 := Le.no M hS105
    have hC108 := hC1.no hS105
    have hd105 : PEq (.bool false) (D 20) w108 ∧ True := hd105
    obtain ⟨d245, -⟩ := hd105
    refine dg_sub (E' := [(23, (.bool false)), (1, (.pointer (some p1)))]) ⟨(congrArg some d245), rfl, trivial⟩ ?_
    exact dg_off rfl rfl rfl rfl ⟨BX.refl _ _, rfl⟩
   ·
    intro w109 D hS106 hd106
    have hl109 := Le.no M hS106
    have hC109 := hC1.no hS106
    have hd106 : PEq undef (D 23) w109 ∧ PEq (.bool false) (D 20) w109 ∧ True := hd106
    obtain ⟨d246, d247, -⟩ := hd106
    refine dg_sub (E' := [(26, undef), (23, (.bool false))]) ⟨(congrArg some d246), (congrArg some d247), trivial⟩ ?_
    exact dg_off rfl rfl rfl rfl ⟨BX.refl _ _, rfl⟩
   ·
    intro w110 D hS107 hd107
    have hl110 := Le.no M hS107
    have hC110 := hC1.no hS107
    have hd107 : PEq undef (D 24) w110 ∧ PEq (.bool false) (D 20) w110 ∧ PEq (.bool false) (D 20) w110 ∧ True := hd107
    obtain ⟨d248, d249, d250, -⟩ := hd107
    refine dg_sub (E' := [(27, undef), (23, (.bool false))]) ⟨(congrArg some d248), (congrArg some d249), trivial⟩ ?_
    exact dg_off rfl rfl rfl rfl ⟨BX.refl _ _, rfl⟩
   ·
    intro w111 D hS108 hd108
    have hd108 : PA RInt M a_t.Field (D 0) w111 ∧ PEq (.int .i64 a_t.Field) (D 1) w111 ∧ PEq (.bool true) (D 2) w111 ∧ PEq (.bool true) (D 3) w111 ∧ PA RInt M a_t.Field (D 4) w111 ∧ PEq (.int .i64 a_t.Field) (D 5) w111 ∧ PEq (.bool false) (D 6) w111 ∧ PEq (.bool false) (D 7) w111 ∧ PEq (.bool false) (D 8) w111 ∧ PEq undef (D 9) w111 ∧ PEq undef (D 10) w111 ∧ PEq undef (D 11) w111 ∧ PEq (.bool false) (D 12) w111 ∧ PEq (.bool false) (D 13) w111 ∧ PEq undef (D 14) w111 ∧ PEq undef (D 15) w111 ∧ PEq undef (D 16) w111 ∧ PEq undef (D 17) w111 ∧ PEq undef (D 18) w111 ∧ PEq (.bool false) (D 19) w111 ∧ PEq (.bool false) (D 20) w111 ∧ PEq undef (D 21) w111 ∧ PEq undef (D 22) w111 ∧ PEq undef (D 23) w111 ∧ PEq undef (D 24) w111 ∧ PEq undef (D 25) w111 ∧ True := hd108
    obtain ⟨-, -, -, -, -, -, -, -, -, -, -, -, -, -, -, -, -, -, -, -, d271, -, d273, -, -, d276, -⟩ := hd108
    have hl111 := Le.no M hS108
    have hC111 := hC1.no hS108
    refine lw_sub (E' := [(23, (.bool false)), (25, undef), (28, undef), (1, (.pointer (some p1))), (2, (.bool false))]) ⟨(congrArg some d271), (congrArg some d273), (congrArg some d276), rfl, rfl, trivial⟩ ?_
    refine lw_off rfl rfl rfl rfl rfl rfl ?_
    refine lw_op rfl rfl rfl (ow_pickF rfl rfl rfl ?_)
    refine lw_op rfl rfl rfl (ow_assign rfl rfl ?_)
    refine lw_nil (ew_then (cw_ret ?_))
    obtain rfl := Option.some.inj h
    exact ew_ret (res1 rfl (.tmp rfl)) ⟨_, rfl, ((vbool _)), hC111.bx⟩
 ·
  refine cw_sub (E' := [(1, (.pointer (some p1))), (2, (.bool false))]) ⟨rfl, rfl, trivial⟩ ?_
  refine cw_drawQ 26 [PA RInt M a_t.Field, PEq (.int .i64 a_t.Field), PEq (.bool false), PEq (.bool false), PEq undef, PEq undef, PEq undef, PEq (.bool false), PEq (.bool false), PEq undef, PEq undef, PEq undef, PEq (.bool false), PEq (.bool false), PEq undef, PEq undef, PEq undef, PEq undef, PEq undef, PEq (.bool false), PEq (.bool false), PEq undef, PEq undef, PEq undef, PEq undef, PEq undef] (by kernel_rfl) rfl (by kernel_rfl) ⟨PA.mono _ _ _, PEq.mono _, PEq.mono _, PEq.mono _, PEq.mono _, PEq.mono _, PEq.mono _, PEq.mono _, PEq.mono _, PEq.mono _, PEq.mono _, PEq.mono _, PEq.mono _, PEq.mono _, PEq.mono _, PEq.mono _, PEq.mono _, PEq.mono _, PEq.mono _, PEq.mono _, PEq.mono _, PEq.mono _, PEq.mono _, PEq.mono _, PEq.mono _, PEq.mono _, trivial⟩ ⟨?_, ?_, ?_, ?_, ?_, ?_, ?_, ?_, ?_, ?_, ?_, ?_, ?_, ?_, ?_, ?_, ?_, ?_, ?_, ?_, ?_, ?_, ?_, ?_, ?_, ?_, trivial⟩ ?_
  ·
   intro w112 D hS109 hd109
   have hl112 := Le.no M hS109
   have hC112 := hC1.no hS109
   refine dg_sub (E' := [(1, (.pointer (some p1)))]) ⟨rfl, trivial⟩ ?_
   refine dg_plain rfl (ow_fieldAddr rfl rfl Tryd.underlying31 rfl (Tryd.sizeOf3 _) ?_)
   exact ⟨BX.refl _ _, ⟨_, rfl, (ARep.mono hl112 (hp1.fld fld_Test_Field))⟩⟩
  ·
   intro w113 D hS110 hd110
   have hl113 := Le.no M hS110
   have hC113 := hC1.no hS110
   have hd110 : PA RInt M a_t.Field (D 0) w113 ∧ True := hd110
   obtain ⟨d277, -⟩ := hd110
   obtain ⟨p19, e18, ha18⟩ := d277
   refine dg_sub (E' := [(3, (.pointer (some p19)))]) ⟨(congrArg some e18), trivial⟩ ?_
   refine dg_plain rfl (ow_load (R := RInt) rfl rfl ha18 (Tryd.sizeOf3 _) (Tryd.isAgg3 _) fun v27 hv27 => ?_)
   obtain rfl := vint_eq hv27
   exact ⟨BX.refl _ _, rfl⟩
  ·
   intro w114 D hS111 hd111
   have hl114 := Le.no M hS111
   have hC114 := hC1.no hS111
   have hd111 : PEq (.int .i64 a_t.Field) (D 1) w114 ∧ True := hd111
   obtain ⟨d278, -⟩ := hd111
   refine dg_sub (E' := [(4, (.int .i64 a_t.Field))]) ⟨(congrArg some d278), trivial⟩ ?_
   refine dg_plain rfl (ow_geq rfl rfl rfl fun bb19 hbb19 => ?_)
   obtain rfl := hbb19.trans hc1
   exact ⟨BX.refl _ _, rfl⟩
  ·
   intro w115 D hS112 hd112
   have hl115 := Le.no M hS112
   have hC115 := hC1.no hS112
   have hd112 : PEq (.bool false) (D 2) w115 ∧ True := hd112
   obtain ⟨d279, -⟩ := hd112
   refine dg_sub (E' := [(5, (.bool false))]) ⟨(congrArg some d279), trivial⟩ ?_
   refine dg_plain rfl (ow_move rfl rfl ?_)
   exact ⟨BX.refl _ _, rfl⟩
  ·
   intro w116 D hS113 hd113
   have hl116 := Le.no M hS113
   have hC116 := hC1.no hS113
   have hd113 : PEq (.bool false) (D 3) w116 ∧ True := hd113
   obtain ⟨d280, -⟩ := hd113
   refine dg_sub (E' := [(6, (.bool false)), (1, (.pointer (some p1)))]) ⟨(congrArg some d280), rfl, trivial⟩ ?_
   exact dg_off rfl rfl rfl rfl ⟨BX.refl _ _, rfl⟩
  ·
   intro w117 D hS114 hd114
   have hl117 := Le.no M hS114
   have hC117 := hC1.no hS114
   have hd114 : PEq undef (D 4) w117 ∧ PEq (.bool false) (D 3) w117 ∧ True := hd114
   obtain ⟨d281, d282, -⟩ := hd114
   refine dg_sub (E' := [(7, undef), (6, (.bool false))]) ⟨(congrArg some d281), (congrArg some d282), trivial⟩ ?_
   exact dg_off rfl rfl rfl rfl ⟨BX.refl _ _, rfl⟩
  ·
   intro w118 D hS115 hd115
   have hl118 := Le.no M hS115
   have hC118 := hC1.no hS115
   have hd115 : PEq undef (D 5) w118 ∧ PEq (.bool false) (D 3) w118 ∧ True := hd115
   obtain ⟨d283, d284, -⟩ := hd115
   refine dg_sub (E' := [(8, undef), (6, (.bool false))]) ⟨(congrArg some d283), (congrArg some d284), trivial⟩ ?_
   exact dg_off rfl rfl rfl rfl ⟨BX.refl _ _, rfl⟩
  ·
   intro w119 D hS116 hd116
   have hl119 := Le.no M hS116
   have hC119 := hC1.no hS116
   have hd116 : PEq (.bool false) (D 3) w119 ∧ PEq undef (D 6) w119 ∧ True := hd116
   obtain ⟨d285, d286, -⟩ := hd116
   refine dg_sub (E' := [(6, (.bool false)), (9, undef)]) ⟨(congrArg some d285), (congrArg some d286), trivial⟩ ?_
   refine dg_plain rfl (ow_pickF rfl rfl rfl ?_)
   exact ⟨BX.refl _ _, rfl⟩
  ·
   intro w120 D hS117 hd117
   have hl120 := Le.no M hS117
   have hC120 := hC1.no hS117
   have hd117 : PEq (.bool false) (D 7) w120 ∧ PEq (.bool false) (D 3) w120 ∧ True := hd117
   obtain ⟨d287, d288, -⟩ := hd117
   refine dg_sub (E' := [(10, (.bool false))]) ⟨(congrArg some d287), trivial⟩ ?_
   refine dg_plain rfl (ow_move rfl rfl ?_)
   exact ⟨BX.refl _ _, rfl⟩
  ·
   intro w121 D hS118 hd118
   have hl121 := Le.no M hS118
   have hC121 := hC1.no hS118
   have hd118 : PEq (.bool false) (D 8) w121 ∧ True := hd118
   obtain ⟨d289, -⟩ := hd118
   refine dg_sub (E' := [(11, (.bool false)), (1, (.pointer (some p1)))]) ⟨(congrArg some d289), rfl, trivial⟩ ?_
   exact dg_off rfl rfl rfl rfl ⟨BX.refl _ _, rfl⟩
  ·
   intro w122 D hS119 hd119
   have hl122 := Le.no M hS119
   have hC122 := hC1.no hS119
   have hd119 : PEq undef (D 9) w122 ∧ PEq (.bool false) (D 8) w122 ∧ True := hd119
   obtain ⟨d290, d291, -⟩ := hd119
   refine dg_sub (E' := [(12, undef), (11, (.bool false))]) ⟨(congrArg some d290), (congrArg some d291), trivial⟩ ?_
   exact dg_off rfl rfl rfl rfl ⟨BX.refl _ _, rfl⟩
  ·
   intro w123 D hS120 hd120
   have hl123 := Le.no M hS120
   have hC123 := hC1.no hS120
   have hd120 : PEq undef (D 10) w123 ∧ PEq (.bool false) (D 8) w123 ∧ True := hd120
   obtain ⟨d292, d293, -⟩ := hd120
   refine dg_sub (E' := [(13, undef), (11, (.bool false))]) ⟨(congrArg some d292), (congrArg some d293), trivial⟩ ?_
   exact dg_off rfl rfl rfl rfl ⟨BX.refl _ _, rfl⟩
  ·
   intro w124 D hS121 hd121
   have hl124 := Le.no M hS121
   have hC124 := hC1.no hS121
   have hd121 : PEq (.bool false) (D 8) w124 ∧ PEq undef (D 11) w124 ∧ True := hd121
   obtain ⟨d294, d295, -⟩ := hd121
   refine dg_sub (E' := [(11, (.bool false)), (14, undef)]) ⟨(congrArg some d294), (congrArg some d295), trivial⟩ ?_
   refine dg_plain rfl (ow_pickF rfl rfl rfl ?_)
   exact ⟨BX.refl _ _, rfl⟩
  ·
   intro w125 D hS122 hd122
   have hl125 := Le.no M hS122
   have hC125 := hC1.no hS122
   have hd122 : PEq (.bool false) (D 12) w125 ∧ PEq (.bool false) (D 8) w125 ∧ True := hd122
   obtain ⟨d296, d297, -⟩ := hd122
   refine dg_sub (E' := [(15, (.bool false))]) ⟨(congrArg some d296), trivial⟩ ?_
   refine dg_plain rfl (ow_move rfl rfl ?_)
   exact ⟨BX.refl _ _, rfl⟩
  ·
   intro w126 D hS123 hd123
   have hl126 := Le.no M hS123
   have hC126 := hC1.no hS123
   have hd123 : PEq (.bool false) (D 13) w126 ∧ True := hd123
   obtain ⟨d298, -⟩ := hd123
   refine dg_sub (E' := [(16, (.bool false)), (1, (.pointer (some p1)))]) ⟨(congrArg some d298), rfl, trivial⟩ ?_
   exact dg_off rfl rfl rfl rfl ⟨BX.refl _ _, rfl⟩
  ·
   intro w127 D hS124 hd124
   have hl127 := Le.no M hS124
   have hC127 := hC1.no hS124
   have hd124 : PEq undef (D 14) w127 ∧ PEq (.bool false) (D 13) w127 ∧ True := hd124
   obtain ⟨d299, d300, -⟩ := hd124
   refine dg_sub (E' := [(17, undef), (16, (.bool false))]) ⟨(congrArg some d299), (congrArg some d300), trivial⟩ ?_
   exact dg_off rfl rfl rfl rfl ⟨BX.refl _ _, rfl⟩
  ·
   intro w128 D hS125 hd125
   have hl128 := Le.no M hS125
   have hC128 := hC1.no hS125
   have hd125 : PEq (.bool false) (D 13) w128 ∧ True := hd125
   obtain ⟨d301, -⟩ := hd125
   refine dg_sub (E' := [(16, (.bool false)), (1, (.pointer (some p1)))]) ⟨(congrArg some d301), rfl, trivial⟩ ?_
   exact dg_off rfl rfl rfl rfl ⟨BX.refl _ _, rfl⟩
  ·
   intro w129 D hS126 hd126
   have hl129 := Le.no M hS126
   have hC129 := hC1.no hS126
   have hd126 : PEq undef (D 16) w129 ∧ PEq (.bool false) (D 13) w129 ∧ True := hd126
   obtain ⟨d302, d303, -⟩ := hd126
   refine dg_sub (E' := [(19, undef), (16, (.bool false))]) ⟨(congrArg some d302), (congrArg some d303), trivial⟩ ?_
   exact dg_off rfl rfl rfl rfl ⟨BX.refl _ _, rfl⟩
  ·
   intro w130 D hS127 hd127
   have hl130 := Le.no M hS127
   have hC130 := hC1.no hS127
   have hd127 : PEq undef (D 15) w130 ∧ PEq undef (D 17) w130 ∧ PEq (.bool false) (D 13) w130 ∧ True := hd127
   obtain ⟨d304, d305, d306, -⟩ := hd127
   refine dg_sub (E' := [(18, undef), (20, undef), (16, (.bool false))]) ⟨(congrArg some d304), (congrArg some d305), (congrArg some d306), trivial⟩ ?_
   exact dg_off rfl rfl rfl rfl ⟨BX.refl _ _, rfl⟩
  ·
   intro w131 D hS128 hd128
   have hl131 := Le.no M hS128
   have hC131 := hC1.no hS128
   have hd128 : PEq (.bool false) (D 13) w131 ∧ PEq undef (D 18) w131 ∧ True := hd128
   obtain ⟨d307, d308, -⟩ := hd128
   refine dg_sub (E' := [(16, (.bool false)), (21, undef)]) ⟨(congrArg some d307), (congrArg some d308), trivial⟩ ?_
   refine dg_plain rfl (ow_pickF rfl rfl rfl ?_)
   exact ⟨BX.refl _ _, rfl⟩
  ·
   intro w132 D hS129 hd129
   have hl132 := Le.no M hS129
   have hC132 := hC1.no hS129
   have hd129 : PEq (.bool false) (D 19) w132 ∧ PEq (.bool false) (D 13) w132 ∧ True := hd129
   obtain ⟨d309, d310, -⟩ := hd129
   refine dg_sub (E' := [(22, (.bool false))]) ⟨(congrArg some d309), trivial⟩ ?_
   refine dg_plain rfl (ow_move rfl rfl ?_)
   exact ⟨BX.refl _ _, rfl⟩
  ·
   intro w133 D hS130 hd130
   have hl133 := Le.no M hS130
   have hC133 := hC1.no hS130
   have hd130 : PEq (.bool false) (D 20) w133 ∧ True := hd130
   obtain ⟨d311, -⟩ := hd130
   refine dg_sub (E' := [(23, (.bool false)), (1, (.pointer (some p1)))]) ⟨(congrArg some d311), rfl, trivial⟩ ?_
   exact dg_off rfl rfl rfl rfl ⟨BX.refl _ _, rfl⟩
  ·
   intro w134 D hS131 hd131
   have hl134 := Le.no M hS131
   have hC134 := hC1.no hS131
   have hd131 : PEq undef (D 21) w134 ∧ PEq (.bool false) (D 20) w134 ∧ True := hd131
   obtain ⟨d312, d313, -⟩ := hd131
   refine dg_sub (E' := [(24, undef), (23, (.bool false))]) ⟨(congrArg some d312), (congrArg some d313), trivial⟩ ?_
   exact dg_off rfl rfl rfl rfl ⟨BX.refl _ _, rfl⟩
  ·
   intro w135 D hS132 hd132
   have hl135 := Le.no M hS132
   have hC135 := hC1.no hS132
   have hd132 : PEq (.bool false) (D 20) w135 ∧ True := hd132
   obtain ⟨d314, -⟩ := hd132
   refine dg_sub (E' := [(23, (.bool false)), (1, (.pointer (some p1)))]) ⟨(congrArg some d314), rfl, trivial⟩ ?_
   exact dg_off rfl rfl rfl rfl ⟨BX.refl _ _, rfl⟩
  ·
   intro w136 D hS133 hd133
   have hl136 := Le.no M hS133
   have hC136 := hC1.no hS133
   have hd133 : PEq undef (D 23) w136 ∧ PEq (.bool false) (D 20) w136 ∧ True := hd133
   obtain ⟨d315, d316, -⟩ := hd133
   refine dg_sub (E' := [(26, undef), (23, (.bool false))]) ⟨(congrArg some d315), (congrArg some d316), trivial⟩ ?_
   exact dg_off rfl rfl rfl rfl ⟨BX.refl _ _, rfl⟩
  ·
   intro w137 D hS134 hd134
   have hl137 := Le.no M hS134
   have hC137 := hC1.no hS134
   have hd134 : PEq undef (D 24) w137 ∧ PEq (.bool false) (D 20) w137 ∧ PEq (.bool false) (D 20) w137 ∧ True := hd134
   obtain ⟨d317, d318, d319, -⟩ := hd134
   refine dg_sub (E' := [(27, undef), (23, (.bool false))]) ⟨(congrArg some d317), (congrArg some d318), trivial⟩ ?_
   exact dg_off rfl rfl rfl rfl ⟨BX.refl _ _, rfl⟩
  ·
   intro w138 D hS135 hd135
   have hd135 : PA RInt M a_t.Field (D 0) w138 ∧ PEq (.int .i64 a_t.Field) (D 1) w138 ∧ PEq (.bool false) (D 2) w138 ∧ PEq (.bool false) (D 3) w138 ∧ PEq undef (D 4) w138 ∧ PEq undef (D 5) w138 ∧ PEq undef (D 6) w138 ∧ PEq (.bool false) (D 7) w138 ∧ PEq (.bool false) (D 8) w138 ∧ PEq undef (D 9) w138 ∧ PEq undef (D 10) w138 ∧ PEq undef (D 11) w138 ∧ PEq (.bool false) (D 12) w138 ∧ PEq (.bool false) (D 13) w138 ∧ PEq undef (D 14) w138 ∧ PEq undef (D 15) w138 ∧ PEq undef (D 16) w138 ∧ PEq undef (D 17) w138 ∧ PEq undef (D 18) w138 ∧ PEq (.bool false) (D 19) w138 ∧ PEq (.bool false) (D 20) w138 ∧ PEq undef (D 21) w138 ∧ PEq undef (D 22) w138 ∧ PEq undef (D 23) w138 ∧ PEq undef (D 24) w138 ∧ PEq undef (D 25) w138 ∧ True := hd135
   obtain ⟨-, -, -, -, -, -, -, -, -, -, -, -, -, -, -, -, -, -, -, -, d340, -, d342, -, -, d345, -⟩ := hd135
   have hl138 := Le.no M hS135
   have hC138 := hC1.no hS135
   refine lw_sub (E' := [(23, (.bool false)), (25, undef), (28, undef), (1, (.pointer (some p1))), (2, (.bool false))]) ⟨(congrArg some d340), (congrArg some d342), (congrArg some d345), rfl, rfl, trivial⟩ ?_
   refine lw_off rfl rfl rfl rfl rfl rfl ?_
   refine lw_op rfl rfl rfl (ow_pickF rfl rfl rfl ?_)
   refine lw_op rfl rfl rfl (ow_assign rfl rfl ?_)
   refine lw_nil (ew_then (cw_ret ?_))
   obtain rfl := Option.some.inj h
   exact ew_ret (res1 rfl (.tmp rfl)) ⟨_, rfl, ((vbool _)), hC138.bx⟩

theorem w_impl_TestsValid {w : World} {M : Nat → Prop} (hG : ARep (RArr 4 RShape) w M shapes ⟨0, 0, none⟩) (hO : ∀ b, M b → b < w.heap.size) {v0p : Value} {a_list : List Test} (h0 : VRep (RSlice RTest) w M a_list v0p) {r : Bool} (h : F.impl_TestsValid a_list = some r) :
  Calls Tryd.prog 55 [v0p].toArray w fun e w' => ∃ v, e = .returned v ∧ VRep RBool w' M r v ∧ BX No w w' := by
 have hC : Cx No w M w M := Cx.start hO (fun _ e => e.elim)
 refine walk (N := 18) Tryd.func55 rfl Tryd.ntmps55 rfl ?_
 refine cw_seq (cw_region (lw_op rfl rfl rfl (ow_assign rfl rfl ?_)))
 refine lw_nil (ew_then (cw_seq (cw_seq (cw_region (lw_op rfl rfl rfl (ow_move rfl rfl ?_))))))
 refine lw_op rfl rfl rfl (ow_len rfl rfl h0 Tryd.underlying23 rfl ?_)
 refine lw_op rfl rfl rfl (ow_gtr rfl rfl rfl fun bb1 hbb1 => ?_)
 refine lw_nil (ew_then ?_)
 replace h := cond_some h
 rcases h with ⟨hc1, h⟩ | ⟨hc1, h⟩
 ·
  obtain rfl := hbb1.trans hc1
  refine cw_true rfl ?_
  refine cw_seq (cw_region (lw_op rfl rfl rfl (ow_assign rfl rfl ?_)))
  refine lw_nil (ew_then (cw_ret (ew_thenR ?_)))
  obtain rfl := Option.some.inj h
  exact ew_ret (res1 rfl (.tmp rfl)) ⟨_, rfl, ((vbool _)), hC.bx⟩
 ·
  obtain rfl := hbb1.trans hc1
  refine cw_false rfl ?_
  refine cw_skip (ew_then (cw_seq (cw_seq (cw_region (lw_op rfl rfl rfl (ow_move rfl rfl ?_))))))
  refine lw_op rfl rfl rfl (ow_len rfl rfl h0 Tryd.underlying23 rfl ?_)
  refine lw_op rfl rfl rfl (ow_move rfl rfl ?_)
  refine lw_nil (ew_then ?_)
  replace h := bind_some h
  obtain ⟨lr1, hlr1, h⟩ := h
  refine cw_for hlr1 (fun s a w' => ∃ (M' : Nat → Prop), Fits 18 [(8, v0p), (9, (.int .i64 (a_list.length : Int))), (10, (.int .i64 s))] a ∧ Le w M w' M' ∧ Cx No w M w' M') ?_ ?_ ?_
  ·
   intro a ha
   exact ⟨M, ha.sub ⟨rfl, rfl, rfl, trivial⟩, Le.refl _ _, hC⟩
  ·
   rintro k1 a w1 sr1 ⟨M1, hF1, hl1, hC1⟩ hb1 hR1
   refine cw_at (E := [(8, v0p), (9, (.int .i64 (a_list.length : Int))), (10, (.int .i64 k1))]) hF1 ?_
   refine cw_seq (cw_region (lw_op rfl rfl rfl (ow_lss rfl rfl rfl fun bb2 hbb2 => ?_)))
   refine lw_nil (ew_then (cw_seq ?_))
   replace hb1 := cond_some hb1
   rcases hb1 with ⟨hc2, hb1⟩ | ⟨hc2, hb1⟩
   ·
    obtain rfl := hbb2.trans hc2
    refine cw_true rfl ?_
    refine cw_skip (ew_then (cw_seq (cw_block ?_)))
    refine cw_seq (cw_region ?_)
    replace hb1 := bind_some hb1
    obtain ⟨x1, hx1, hb1⟩ := hb1
    refine lw_op rfl rfl rfl (ow_indexSlice (R := RTest) rfl rfl rfl (VRep.mono hl1 h0) Tryd.underlying23 (Tryd.sizeOf31 _) hx1 fun p1 hp1 => ?_)
    refine lw_op rfl rfl rfl (ow_load (R := RTest) rfl rfl hp1 (Tryd.sizeOf31 _) (Tryd.isAgg31 _) fun v2 hv2 => ?_)
    refine lw_allocStore (R := RTest) rfl rfl rfl rfl rfl rfl rfl Tryd.zeroValue31 Tryd.sizeOf31 rfl rfl rfl (by simp) hv2 hC1 fun p2 w2 hp2 hb2 hl2 hC2 => ?_
    refine lw_nil (ew_then (cw_seq (cw_region (lw_op rfl rfl rfl (ow_load (R := RTest) rfl rfl hp2 (Tryd.sizeOf31 _) (Tryd.isAgg31 _) fun v3 hv3 => ?_)))))
    replace hb1 := bind_some hb1
    obtain ⟨x2, hx2, hb1⟩ := hb1
    refine lw_op rfl rfl rfl (ow_call rfl rfl Tryd.call93 (w_impl_TestValid (hG.mono (hl1.trans hl2)) hC2.old hv3 hx2) fun v4 w3 hv4 => ?_)
    obtain ⟨hv4, hb3⟩ := hv4
    have hl3 := Le.no M1 hb3
    have hC3 := hC2.no hb3
    obtain rfl := vbool_eq hv4
    refine lw_op rfl rfl rfl (ow_not rfl rfl ?_)
    refine lw_nil (ew_then ?_)
    replace hb1 := cond_some hb1
    rcases hb1 with ⟨hc3, hb1⟩ | ⟨hc3, hb1⟩
    ·
     subst hc3
     refine cw_false rfl ?_
     refine cw_skip (ew_blockN ?_)
     refine ew_then (cw_region (lw_op rfl rfl rfl (ow_add rfl rfl rfl ?_)))
     refine lw_op rfl rfl rfl (ow_move rfl rfl ?_)
     refine lw_nil (ew_nxt (W (k1 + 1)) hb1 fun a ha => ⟨M1, ?_, ((hl1.trans hl2).trans hl3), hC3⟩)
     exact ha.sub ⟨rfl, rfl, rfl, trivial⟩
    ·
     subst hc3
     refine cw_true rfl ?_
     refine cw_seq (cw_region (lw_op rfl rfl rfl (ow_assign rfl rfl ?_)))
     refine lw_nil (ew_then (cw_ret (ew_blockR ?_)))
     refine ew_thenR (ew_thenR (ew_blockR ?_))
     refine ew_brkR ?_
     refine ew_thenR ?_
     have e1 := hR1 _ (Option.some.inj hb1).symm
     subst e1
     obtain rfl := Option.some.inj h
     exact ew_ret (res1 rfl (.tmp rfl)) ⟨_, rfl, ((vbool _)), hC3.bx⟩
   ·
    obtain rfl := hbb2.trans hc2
    refine cw_false rfl ?_
    refine cw_exit ?_
    refine ew_thenX ?_
    refine ew_thenX ?_
    refine ew_blockX ?_
    refine ew_brk k1 hb1 fun a ha => ⟨M1, ?_, hl1, hC1⟩
    exact ha.sub ⟨rfl, rfl, rfl, trivial⟩
  ·
   rintro k2 a w4 hlr2 ⟨M2, hF2, hl4, hC4⟩
   subst hlr2
   refine ew_at (E := [(8, v0p), (9, (.int .i64 (a_list.length : Int))), (10, (.int .i64 k2))]) hF2 ?_
   refine ew_then (cw_seq (cw_region (lw_op rfl rfl rfl (ow_assign rfl rfl ?_))))
   refine lw_nil (ew_then (cw_ret ?_))
   obtain rfl := Option.some.inj h
   exact ew_ret (res1 rfl (.tmp rfl)) ⟨_, rfl, ((vbool _)), hC4.bx⟩

theorem w_impl_allSides {w : World} {M : Nat → Prop} (hG : ARep (RArr 4 RShape) w M shapes ⟨0, 0, none⟩) (hO : ∀ b, M b → b < w.heap.size)  {r : (List (List Span))} (h : F.impl_allSides = some r) :
  Calls Tryd.prog 94 [].toArray w fun e w' => ∃ v, e = .returned v ∧ VRep (RArr 4 (RSlice RSpan)) w' M r v ∧ BX No w w' := by
 have hC : Cx No w M w M := Cx.start hO (fun _ e => e.elim)
 refine walk (N := 14) Tryd.func94 rfl Tryd.ntmps94 rfl ?_
 refine cw_seq (cw_region (lw_op rfl rfl rfl (ow_alloc rfl (Tryd.zeroValue69 _) hC fun g1 w1 hg1 hg2 ho1 hb1 hl1 hC1 => ?_)))
 have hm1 : (Add g1 M) g1 := .inl rfl
 have ho2 : OwnA (RArr 4 (RSlice RSpan)) w1 (Add g1 M) g1 69 [([] : List Span), ([] : List Span), ([] : List Span), ([] : List Span)] := OwnA.of ho1 ⟨rfl, ⟨_, _, rfl, (vslice_nil (R := RSpan) (w := w1) (M := (Add g1 M))).cells, _, _, rfl, (vslice_nil (R := RSpan) (w := w1) (M := (Add g1 M))).cells, _, _, rfl, (vslice_nil (R := RSpan) (w := w1) (M := (Add g1 M))).cells, _, _, rfl, (vslice_nil (R := RSpan) (w := w1) (M := (Add g1 M))).cells, rfl⟩⟩
 refine lw_nil (ew_then (cw_seq (cw_region (lw_op rfl rfl rfl (ow_alloc rfl (Tryd.zeroValue69 _) hC1 fun g2 w2 hg3 hg4 ho3 hb2 hl2 hC2 => ?_)))))
 have hn1 := Nat.ne_of_lt (Nat.lt_of_lt_of_le ho2.lt hg3)
 have ho4 := ho2.no hb2 hl2
 have hm2 : (Add g2 (Add g1 M)) g1 := .inr hm1
 have hm3 : (Add g2 (Add g1 M)) g2 := .inl rfl
 have ho5 : OwnA (RArr 4 (RSlice RSpan)) w2 (Add g2 (Add g1 M)) g2 69 [([] : List Span), ([] : List Span), ([] : List Span), ([] : List Span)] := OwnA.of ho3 ⟨rfl, ⟨_, _, rfl, (vslice_nil (R := RSpan) (w := w2) (M := (Add g2 (Add g1 M)))).cells, _, _, rfl, (vslice_nil (R := RSpan) (w := w2) (M := (Add g2 (Add g1 M)))).cells, _, _, rfl, (vslice_nil (R := RSpan) (w := w2) (M := (Add g2 (Add g1 M)))).cells, _, _, rfl, (vslice_nil (R := RSpan) (w := w2) (M := (Add g2 (Add g1 M)))).cells, rfl⟩⟩
 refine lw_nil (ew_then (cw_seq (cw_seq (cw_region (lw_op rfl rfl rfl (ow_move rfl rfl ?_))))))
 refine lw_nil (ew_then ?_)
 replace h := bind_some h
 obtain ⟨lr1, hlr1, h⟩ := h
 refine cw_for hlr1 (fun s a w' => ∃ (M' : Nat → Prop), Fits 14 [(0, (.pointer (some ⟨g1, 0, none⟩))), (1, (.pointer (some ⟨g2, 0, none⟩))), (3, (.int .i64 s.1))] a ∧ Le w2 (Add g2 (Add g1 M)) w' M' ∧ Cx No w M w' M' ∧ OwnA (RArr 4 (RSlice RSpan)) w' M' g1 69 [([] : List Span), ([] : List Span), ([] : List Span), ([] : List Span)] ∧ M' g1 ∧ OwnA (RArr 4 (RSlice RSpan)) w' M' g2 69 s.2 ∧ M' g2) ?_ ?_ ?_
 ·
  intro a ha
  exact ⟨(Add g2 (Add g1 M)), ha.sub ⟨rfl, rfl, rfl, trivial⟩, Le.refl _ _, hC2, ho4, hm2, ho5, hm3⟩
 ·
  rintro ⟨k1, y1⟩ a w3 sr1 ⟨M1, hF1, hl3, hC3, ho6, hm4, ho7, hm5⟩ hb3 hR1
  refine cw_at (E := [(0, (.pointer (some ⟨g1, 0, none⟩))), (1, (.pointer (some ⟨g2, 0, none⟩))), (3, (.int .i64 k1))]) hF1 ?_
  refine cw_seq (cw_region (lw_op rfl rfl rfl (ow_lss rfl rfl rfl fun bb1 hbb1 => ?_)))
  refine lw_nil (ew_then (cw_seq ?_))
  replace hb3 := cond_some hb3
  rcases hb3 with ⟨hc1, hb3⟩ | ⟨hc1, hb3⟩
  ·
   obtain rfl := hbb1.trans hc1
   refine cw_true rfl ?_
   refine cw_skip (ew_then (cw_seq (cw_block ?_)))
   refine cw_seq (cw_region (lw_op rfl rfl rfl (ow_move rfl rfl ?_)))
   refine lw_op rfl rfl rfl (ow_assign rfl rfl ?_)
   refine lw_nil (ew_then (cw_region (lw_op rfl rfl rfl (ow_move rfl rfl ?_))))
   refine lw_op rfl rfl rfl (ow_move rfl rfl ?_)
   replace hb3 := bind_some hb3
   obtain ⟨x1, hx1, hb3⟩ := hb3
   refine lw_op rfl rfl rfl (ow_call rfl rfl Tryd.call69 (w_impl_FieldTop (hG.mono ((hl1.trans hl2).trans hl3)) hC3.old hx1) fun v3 w4 hv3 => ?_)
   obtain ⟨hv3, hb4⟩ := hv3
   have hl4 := Le.no M1 hb4
   have hC4 := hC3.no hb4
   have ho8 := ho6.no hb4 hl4
   have ho9 := ho7.no hb4 hl4
   obtain rfl := vint_eq hv3
   refine lw_op rfl rfl rfl (ow_build (v := .agg #[(.int .i64 0), (.int .i64 x1)]) rfl rfl (by kernel_rfl) ?_)
   have hw1 : VRep RSpan w4 M1 ({ Lo := 0, Hi := x1 } : Span) (.agg #[(.int .i64 0), (.int .i64 x1)]) := shut_Span
   refine lw_op rfl rfl rfl (ow_buildSlice (R := RSpan) (xs := [({ Lo := 0, Hi := x1 } : Span)]) (cs := #[(.int .i64 0), (.int .i64 x1)]) (e := 76) rfl rfl (by kernel_rfl) rfl rfl ⟨_, _, rfl, hw1.cells, rfl⟩ hC4 fun p1 w5 hw2 hb5 hl5 hC5 => ?_)
   have ho10 := ho8.no hb5 hl5
   have ho11 := ho9.no hb5 hl5
   replace hb3 := bind_some hb3
   obtain ⟨x2, hx2, hb3⟩ := hb3
   refine lw_op rfl rfl rfl (ow_indexA (R := (RSlice RSpan)) rfl rfl rfl rfl ho11 Tryd.underlying69 (Tryd.sizeOf58 _) hx2 ?_)
   refine lw_op0 rfl rfl (ow_storeElA (X := No) (R := (RSlice RSpan)) rfl rfl rfl rfl ho11 hx2 (Tryd.sizeOf58 _) hw2 hm5 (.inl hg4) hC5 fun w6 ho12 hb6 hl6 hC6 => ?_)
   have ho13 := ho10.go hb6 (fun e => hn1 e) hl6
   refine lw_nil (ew_blockN ?_)
   refine ew_then (cw_region (lw_op rfl rfl rfl (ow_add rfl rfl rfl ?_)))
   refine lw_op rfl rfl rfl (ow_move rfl rfl ?_)
   refine lw_nil (ew_nxt ((W (k1 + 1)), (List.set y1 (k1 : Int).toNat [({ Lo := 0, Hi := x1 } : Span)])) hb3 fun a ha => ⟨M1, ?_, (((hl3.trans hl4).trans hl5).trans hl6), hC6, ho13, hm4, ho12, hm5⟩)
   exact ha.sub ⟨rfl, rfl, rfl, trivial⟩
  ·
   obtain rfl := hbb1.trans hc1
   refine cw_false rfl ?_
   refine cw_exit ?_
   refine ew_thenX ?_
   refine ew_thenX ?_
   refine ew_blockX ?_
   refine ew_brk (k1, y1) hb3 fun a ha => ⟨M1, ?_, hl3, hC3, ho6, hm4, ho7, hm5⟩
   exact ha.sub ⟨rfl, rfl, rfl, trivial⟩
 ·
  rintro ⟨k2, y2⟩ a w7 hlr2 ⟨M2, hF2, hl7, hC7, ho14, hm6, ho15, hm7⟩
  subst hlr2
  refine ew_at (E := [(0, (.pointer (some ⟨g1, 0, none⟩))), (1, (.pointer (some ⟨g2, 0, none⟩))), (3, (.int .i64 k2))]) hF2 ?_
  refine ew_then (cw_seq (cw_region (lw_op rfl rfl rfl (ow_loadA (R := (RArr 4 (RSlice RSpan))) rfl rfl rfl ho15 (Tryd.sizeOf69 _) (Tryd.isAgg69 _) fun v6 hv6 => ?_))))
  obtain ⟨cs1, h1, h2⟩ := ho14.own
  refine lw_op0 rfl rfl (ow_storeA (X := No) (R := (RArr 4 (RSlice RSpan))) rfl rfl rfl rfl h1 h2 (Tryd.sizeOf69 _) hv6 hm6 (.inl hg2) hC7 fun w8 ho16 hb7 hl8 hC8 => ?_)
  have ho17 := ho15.go hb7 (fun e => hn1 e.symm) hl8
  refine lw_nil (ew_then (cw_ret ?_))
  obtain rfl := Option.some.inj h
  obtain ⟨v7, hq1, hw3⟩ := resA ho16 (Tryd.sizeOf69 _) (Tryd.isAgg69 _) rfl
  exact ew_ret (res1 rfl (.cell rfl hq1)) ⟨_, rfl, (hw3.mono hC8.back), hC8.bx⟩

theorem w_impl_limitSpans {w : World} {M : Nat → Prop} (_hG : ARep (RArr 4 RShape) w M shapes ⟨0, 0, none⟩) (hO : ∀ b, M b → b < w.heap.size) {v0p : Value} {a_list : List Span} (h0 : VRep (RSlice RSpan) w M a_list v0p) {r : (List Span) × Bool} (h : F.impl_limitSpans a_list = some r) :
  Calls Tryd.prog 110 [v0p].toArray w fun e w' => ∃ v, e = .returned v ∧ (∃ u0 u1, v = .tuple #[u0, u1] ∧ VRep (RSlice RSpan) w' M r.1 u0 ∧ VRep RBool w' M r.2 u1) ∧ BX No w w' := by
 have hC : Cx No w M w M := Cx.start hO (fun _ e => e.elim)
 clear _hG
 refine walk (N := 8) Tryd.func110 rfl Tryd.ntmps110 rfl ?_
 refine cw_seq (cw_region (lw_op rfl rfl rfl (ow_assign rfl rfl ?_)))
 refine lw_op rfl rfl rfl (ow_assign rfl rfl ?_)
 refine lw_nil (ew_then (cw_seq (cw_seq (cw_region (lw_op rfl rfl rfl (ow_move rfl rfl ?_))))))
 refine lw_op rfl rfl rfl (ow_len rfl rfl h0 Tryd.underlying58 rfl ?_)
 refine lw_op rfl rfl rfl (ow_gtr rfl rfl rfl fun bb1 hbb1 => ?_)
 refine lw_nil (ew_then ?_)
 replace h := cond_some h
 rcases h with ⟨hc1, h⟩ | ⟨hc1, h⟩
 ·
  obtain rfl := hbb1.trans hc1
  refine cw_true rfl ?_
  refine cw_seq (cw_region (lw_op rfl rfl rfl (ow_assign rfl rfl ?_)))
  refine lw_op rfl rfl rfl (ow_assign rfl rfl ?_)
  refine lw_nil (ew_then (cw_ret (ew_thenR ?_)))
  obtain rfl := Option.some.inj h
  exact ew_ret (res2 rfl (.tmp rfl) (.tmp rfl)) ⟨_, rfl, ⟨_, _, rfl, (VRep.mono hC.back (vslice_nil (R := RSpan) (w := w) (M := M))), ((vbool _))⟩, hC.bx⟩
 ·
  obtain rfl := hbb1.trans hc1
  refine cw_false rfl ?_
  refine cw_skip (ew_then (cw_seq (cw_region (lw_op rfl rfl rfl (ow_move rfl rfl ?_)))))
  refine lw_op rfl rfl rfl (ow_assign rfl rfl ?_)
  refine lw_op rfl rfl rfl (ow_assign rfl rfl ?_)
  refine lw_nil (ew_then (cw_ret ?_))
  obtain rfl := Option.some.inj h
  exact ew_ret (res2 rfl (.tmp rfl) (.tmp rfl)) ⟨_, rfl, ⟨_, _, rfl, (VRep.mono hC.back h0), ((vbool _))⟩, hC.bx⟩

theorem w_impl_inBoth {w : World} {M : Nat → Prop} (_hG : ARep (RArr 4 RShape) w M shapes ⟨0, 0, none⟩) (hO : ∀ b, M b → b < w.heap.size) {b0 a_inA : Bool} (h0 : b0 = a_inA) {b1 a_inB : Bool} (h1 : b1 = a_inB) {r : Bool} (h : F.impl_inBoth a_inA a_inB = some r) :
  Calls Tryd.prog 111 [(.bool b0), (.bool b1)].toArray w fun e w' => ∃ v, e = .returned v ∧ VRep RBool w' M r v ∧ BX No w w' := by
 have hC : Cx No w M w M := Cx.start hO (fun _ e => e.elim)
 clear _hG
 refine walk (N := 9) Tryd.func111 rfl Tryd.ntmps111 rfl ?_
 refine cw_seq (cw_region (lw_op rfl rfl rfl (ow_assign rfl rfl ?_)))
 refine lw_nil (ew_then (cw_seq (cw_region (lw_op rfl rfl rfl (ow_move rfl rfl ?_)))))
 refine lw_op rfl rfl rfl (ow_move rfl rfl ?_)
 replace h := cond_some h
 rcases h with ⟨hc1, h⟩ | ⟨hc1, h⟩
 ·
  obtain rfl := h0.trans hc1
  refine lw_on rfl rfl rfl rfl rfl rfl (ow_move rfl rfl ?_)
  refine lw_op rfl rfl rfl (ow_pickT rfl rfl rfl ?_)
  refine lw_op rfl rfl rfl (ow_assign rfl rfl ?_)
  refine lw_nil (ew_then (cw_ret ?_))
  obtain rfl := Option.some.inj h
  exact ew_ret (res1 rfl (.tmp rfl)) ⟨_, rfl, ((vbool_of h1)), hC.bx⟩
 ·
  obtain rfl := h0.trans hc1
  refine lw_off rfl rfl rfl rfl rfl rfl ?_
  refine lw_op rfl rfl rfl (ow_pickF rfl rfl rfl ?_)
  refine lw_op rfl rfl rfl (ow_assign rfl rfl ?_)
  refine lw_nil (ew_then (cw_ret ?_))
  obtain rfl := Option.some.inj h
  exact ew_ret (res1 rfl (.tmp rfl)) ⟨_, rfl, ((vbool _)), hC.bx⟩

theorem w_impl_stretch {w : World} {M : Nat → Prop} (_hG : ARep (RArr 4 RShape) w M shapes ⟨0, 0, none⟩) (hO : ∀ b, M b → b < w.heap.size) {v0p : Value} {a_rest : List Span} (h0 : VRep (RSlice RSpan) w M a_rest v0p) {a_at : Int} {a_top : Int} {r : Bool × Int} (h : F.impl_stretch a_rest a_at a_top = some r) :
  Calls Tryd.prog 114 [v0p, (.int .i64 a_at), (.int .i64 a_top)].toArray w fun e w' => ∃ v, e = .returned v ∧ (∃ u0 u1, v = .tuple #[u0, u1] ∧ VRep RBool w' M r.1 u0 ∧ VRep RInt w' M r.2 u1) ∧ BX No w w' := by
 have hC : Cx No w M w M := Cx.start hO (fun _ e => e.elim)
 clear _hG
 refine walk (N := 27) Tryd.func114 rfl Tryd.ntmps114 rfl ?_
 refine cw_seq (cw_region (lw_op rfl rfl rfl (ow_assign rfl rfl ?_)))
 refine lw_op rfl rfl rfl (ow_assign rfl rfl ?_)
 refine lw_nil (ew_then (cw_seq (cw_seq (cw_region (lw_op rfl rfl rfl (ow_move rfl rfl ?_))))))
 refine lw_op rfl rfl rfl (ow_len rfl rfl h0 Tryd.underlying58 rfl ?_)
 refine lw_op rfl rfl rfl (ow_eqlI rfl rfl rfl fun bb1 hbb1 => ?_)
 refine lw_nil (ew_then ?_)
 replace h := cond_some h
 rcases h with ⟨hc1, h⟩ | ⟨hc1, h⟩
 ·
  obtain rfl := hbb1.trans hc1
  refine cw_true rfl ?_
  refine cw_seq (cw_region (lw_op rfl rfl rfl (ow_move rfl rfl ?_)))
  refine lw_op rfl rfl rfl (ow_assign rfl rfl ?_)
  refine lw_op rfl rfl rfl (ow_assign rfl rfl ?_)
  refine lw_nil (ew_then (cw_ret (ew_thenR ?_)))
  obtain rfl := Option.some.inj h
  exact ew_ret (res2 rfl (.tmp rfl) (.tmp rfl)) ⟨_, rfl, ⟨_, _, rfl, ((vbool _)), ((vint _))⟩, hC.bx⟩
 ·
  obtain rfl := hbb1.trans hc1
  refine cw_false rfl ?_
  refine cw_skip (ew_then (cw_seq (cw_seq (cw_region (lw_op rfl rfl rfl (ow_move rfl rfl ?_))))))
  refine lw_op rfl rfl rfl (ow_move rfl rfl ?_)
  replace h := bind_some h
  obtain ⟨x1, hx1, h⟩ := h
  refine lw_op rfl rfl rfl (ow_indexSlice (R := RSpan) rfl rfl rfl h0 Tryd.underlying58 (Tryd.sizeOf76 _) hx1 fun p1 hp1 => ?_)
  refine lw_op rfl rfl rfl (ow_fieldAddr rfl rfl Tryd.underlying76 rfl (Tryd.sizeOf3 _) ?_)
  refine lw_op rfl rfl rfl (ow_load (R := RInt) rfl rfl (hp1.fld fld_Span_Lo) (Tryd.sizeOf3 _) (Tryd.isAgg3 _) fun v1 hv1 => ?_)
  obtain rfl := vint_eq hv1
  refine lw_op rfl rfl rfl (ow_lss rfl rfl rfl fun bb2 hbb2 => ?_)
  refine lw_nil (ew_then ?_)
  replace h := cond_some h
  rcases h with ⟨hc2, h⟩ | ⟨hc2, h⟩
  ·
   obtain rfl := hbb2.trans hc2
   refine cw_true rfl ?_
   refine cw_seq (cw_sub (E' := [(0, v0p), (7, (.int .i64 0))]) ⟨rfl, rfl, trivial⟩ ?_)
   refine cw_drawQ 6 [PV (RSlice RSpan) M a_rest, PA RSpan M x1, PA RInt M x1.Lo, PEq (.int .i64 x1.Lo), PEq (.int .i64 (W (x1.Lo - 1))), PEq (.bool false)] (by kernel_rfl) rfl (by kernel_rfl) ⟨PV.mono _ _ _, PA.mono _ _ _, PA.mono _ _ _, PEq.mono _, PEq.mono _, PEq.mono _, trivial⟩ ⟨?_, ?_, ?_, ?_, ?_, ?_, trivial⟩ ?_
   ·
    intro w1 D hS1 hd1
    have hl1 := Le.no M hS1
    have hC1 := hC.no hS1
    refine dg_sub (E' := [(0, v0p)]) ⟨rfl, trivial⟩ ?_
    refine dg_plain rfl (ow_move rfl rfl ?_)
    exact ⟨BX.refl _ _, (VRep.mono hl1 h0)⟩
   ·
    intro w2 D hS2 hd2
    have hl2 := Le.no M hS2
    have hC2 := hC.no hS2
    have hd2 : PV (RSlice RSpan) M a_rest (D 0) w2 ∧ True := hd2
    obtain ⟨d1, -⟩ := hd2
    obtain ⟨v3, hq1⟩ : ∃ v, (D 0) = v := ⟨_, rfl⟩
    rw [hq1] at d1
    refine dg_sub (E' := [(18, v3)]) ⟨(congrArg some hq1), trivial⟩ ?_
    refine dg_plain rfl (ow_indexSlice (R := RSpan) rfl rfl rfl d1 Tryd.underlying58 (Tryd.sizeOf76 _) hx1 fun p3 hp3 => ?_)
    exact ⟨BX.refl _ _, ⟨_, rfl, hp3⟩⟩
   ·
    intro w3 D hS3 hd3
    have hl3 := Le.no M hS3
    have hC3 := hC.no hS3
    have hd3 : PA RSpan M x1 (D 1) w3 ∧ True := hd3
    obtain ⟨d2, -⟩ := hd3
    obtain ⟨p4, e1, ha1⟩ := d2
    refine dg_sub (E' := [(19, (.pointer (some p4)))]) ⟨(congrArg some e1), trivial⟩ ?_
    refine dg_plain rfl (ow_fieldAddr rfl rfl Tryd.underlying76 rfl (Tryd.sizeOf3 _) ?_)
    exact ⟨BX.refl _ _, ⟨_, rfl, (ha1.fld fld_Span_Lo)⟩⟩
   ·
    intro w4 D hS4 hd4
    have hl4 := Le.no M hS4
    have hC4 := hC.no hS4
    have hd4 : PA RInt M x1.Lo (D 2) w4 ∧ True := hd4
    obtain ⟨d3, -⟩ := hd4
    obtain ⟨p5, e2, ha2⟩ := d3
    refine dg_sub (E' := [(20, (.pointer (some p5)))]) ⟨(congrArg some e2), trivial⟩ ?_
    refine dg_plain rfl (ow_load (R := RInt) rfl rfl ha2 (Tryd.sizeOf3 _) (Tryd.isAgg3 _) fun v4 hv4 => ?_)
    obtain rfl := vint_eq hv4
    exact ⟨BX.refl _ _, rfl⟩
   ·
    intro w5 D hS5 hd5
    have hl5 := Le.no M hS5
    have hC5 := hC.no hS5
    have hd5 : PEq (.int .i64 x1.Lo) (D 3) w5 ∧ True := hd5
    obtain ⟨d4, -⟩ := hd5
    refine dg_sub (E' := [(21, (.int .i64 x1.Lo))]) ⟨(congrArg some d4), trivial⟩ ?_
    refine dg_plain rfl (ow_sub rfl rfl rfl ?_)
    exact ⟨BX.refl _ _, rfl⟩
   ·
    intro w6 D hS6 hd6
    have hl6 := Le.no M hS6
    have hC6 := hC.no hS6
    refine dg_sub (E' := []) trivial ?_
    refine dg_plain rfl (ow_assign rfl rfl ?_)
    exact ⟨BX.refl _ _, rfl⟩
   ·
    intro w7 D hS7 hd7
    have hd7 : PV (RSlice RSpan) M a_rest (D 0) w7 ∧ PA RSpan M x1 (D 1) w7 ∧ PA RInt M x1.Lo (D 2) w7 ∧ PEq (.int .i64 x1.Lo) (D 3) w7 ∧ PEq (.int .i64 (W (x1.Lo - 1))) (D 4) w7 ∧ PEq (.bool false) (D 5) w7 ∧ True := hd7
    obtain ⟨-, -, -, -, d9, d10, -⟩ := hd7
    have hl7 := Le.no M hS7
    have hC7 := hC.no hS7
    refine lw_sub (E' := [(22, (.int .i64 (W (x1.Lo - 1)))), (6, (.bool false)), (0, v0p), (7, (.int .i64 0))]) ⟨(congrArg some d9), (congrArg some d10), rfl, rfl, trivial⟩ ?_
    refine lw_op rfl rfl rfl (ow_assign rfl rfl ?_)
    refine lw_nil (ew_then (cw_ret (ew_thenR ?_)))
    obtain rfl := Option.some.inj h
    exact ew_ret (res2 rfl (.tmp rfl) (.tmp rfl)) ⟨_, rfl, ⟨_, _, rfl, ((vbool _)), ((vint _))⟩, hC7.bx⟩
  ·
   obtain rfl := hbb2.trans hc2
   refine cw_false rfl ?_
   refine cw_skip (ew_then (cw_seq (cw_sub (E' := [(0, v0p), (7, (.int .i64 0))]) ⟨rfl, rfl, trivial⟩ ?_)))
   refine cw_drawQ 5 [PV (RSlice RSpan) M a_rest, PA RSpan M x1, PA RInt M x1.Hi, PEq (.int .i64 x1.Hi), PEq (.bool true)] (by kernel_rfl) rfl (by kernel_rfl) ⟨PV.mono _ _ _, PA.mono _ _ _, PA.mono _ _ _, PEq.mono _, PEq.mono _, trivial⟩ ⟨?_, ?_, ?_, ?_, ?_, trivial⟩ ?_
   ·
    intro w8 D hS8 hd8
    have hl8 := Le.no M hS8
    have hC8 := hC.no hS8
    refine dg_sub (E' := [(0, v0p)]) ⟨rfl, trivial⟩ ?_
    refine dg_plain rfl (ow_move rfl rfl ?_)
    exact ⟨BX.refl _ _, (VRep.mono hl8 h0)⟩
   ·
    intro w9 D hS9 hd9
    have hl9 := Le.no M hS9
    have hC9 := hC.no hS9
    have hd9 : PV (RSlice RSpan) M a_rest (D 0) w9 ∧ True := hd9
    obtain ⟨d11, -⟩ := hd9
    obtain ⟨v6, hq2⟩ : ∃ v, (D 0) = v := ⟨_, rfl⟩
    rw [hq2] at d11
    refine dg_sub (E' := [(23, v6)]) ⟨(congrArg some hq2), trivial⟩ ?_
    refine dg_plain rfl (ow_indexSlice (R := RSpan) rfl rfl rfl d11 Tryd.underlying58 (Tryd.sizeOf76 _) hx1 fun p7 hp7 => ?_)
    exact ⟨BX.refl _ _, ⟨_, rfl, hp7⟩⟩
   ·
    intro w10 D hS10 hd10
    have hl10 := Le.no M hS10
    have hC10 := hC.no hS10
    have hd10 : PA RSpan M x1 (D 1) w10 ∧ True := hd10
    obtain ⟨d12, -⟩ := hd10
    obtain ⟨p8, e3, ha3⟩ := d12
    refine dg_sub (E' := [(24, (.pointer (some p8)))]) ⟨(congrArg some e3), trivial⟩ ?_
    refine dg_plain rfl (ow_fieldAddr rfl rfl Tryd.underlying76 rfl (Tryd.sizeOf3 _) ?_)
    exact ⟨BX.refl _ _, ⟨_, rfl, (ha3.fld fld_Span_Hi)⟩⟩
   ·
    intro w11 D hS11 hd11
    have hl11 := Le.no M hS11
    have hC11 := hC.no hS11
    have hd11 : PA RInt M x1.Hi (D 2) w11 ∧ True := hd11
    obtain ⟨d13, -⟩ := hd11
    obtain ⟨p9, e4, ha4⟩ := d13
    refine dg_sub (E' := [(25, (.pointer (some p9)))]) ⟨(congrArg some e4), trivial⟩ ?_
    refine dg_plain rfl (ow_load (R := RInt) rfl rfl ha4 (Tryd.sizeOf3 _) (Tryd.isAgg3 _) fun v7 hv7 => ?_)
    obtain rfl := vint_eq hv7
    exact ⟨BX.refl _ _, rfl⟩
   ·
    intro w12 D hS12 hd12
    have hl12 := Le.no M hS12
    have hC12 := hC.no hS12
    refine dg_sub (E' := []) trivial ?_
    refine dg_plain rfl (ow_assign rfl rfl ?_)
    exact ⟨BX.refl _ _, rfl⟩
   ·
    intro w13 D hS13 hd13
    have hd13 : PV (RSlice RSpan) M a_rest (D 0) w13 ∧ PA RSpan M x1 (D 1) w13 ∧ PA RInt M x1.Hi (D 2) w13 ∧ PEq (.int .i64 x1.Hi) (D 3) w13 ∧ PEq (.bool true) (D 4) w13 ∧ True := hd13
    obtain ⟨-, -, -, d17, d18, -⟩ := hd13
    have hl13 := Le.no M hS13
    have hC13 := hC.no hS13
    refine lw_sub (E' := [(26, (.int .i64 x1.Hi)), (6, (.bool true)), (0, v0p), (7, (.int .i64 0))]) ⟨(congrArg some d17), (congrArg some d18), rfl, rfl, trivial⟩ ?_
    refine lw_op rfl rfl rfl (ow_assign rfl rfl ?_)
    refine lw_nil (ew_then (cw_ret ?_))
    obtain rfl := Option.some.inj h
    exact ew_ret (res2 rfl (.tmp rfl) (.tmp rfl)) ⟨_, rfl, ⟨_, _, rfl, ((vbool _)), ((vint _))⟩, hC13.bx⟩

theorem w_impl_sweepSpans__impl_inBoth {w : World} {M : Nat → Prop} (hG : ARep (RArr 4 RShape) w M shapes ⟨0, 0, none⟩) (hO : ∀ b, M b → b < w.heap.size) {v0p : Value} {a_a : List Span} (h0 : VRep (RSlice RSpan) w M a_a v0p) {v1p : Value} {a_b : List Span} (h1 : VRep (RSlice RSpan) w M a_b v1p) {a_top : Int} {r : (List Span)} (h : F.impl_sweepSpans__impl_inBoth a_a a_b a_top = some r) :
  Calls Tryd.prog 99 [v0p, v1p, (.int .i64 a_top), (.func (.func 111) #[] #[])].toArray w fun e w' => ∃ v, e = .returned v ∧ VRep (RSlice RSpan) w' M r v ∧ BX No w w' := by
 obtain ⟨i76, hi76, hz76, hs76, hy76⟩ := info76
 have hC : Cx No w M w M := Cx.start hO (fun _ e => e.elim)
 refine walk (N := 107) Tryd.func99 rfl Tryd.ntmps99 rfl ?_
 refine cw_seq (cw_region (lw_op rfl rfl rfl (ow_assign rfl rfl ?_)))
 refine lw_nil (ew_then (cw_seq (cw_region (lw_op rfl rfl rfl (ow_assign rfl rfl ?_)))))
 refine lw_nil (ew_then (cw_seq (cw_region (lw_op rfl rfl rfl (ow_assign rfl rfl ?_)))))
 refine lw_op rfl rfl rfl (ow_assign rfl rfl ?_)
 refine lw_nil (ew_then (cw_seq (cw_seq (cw_region (lw_op rfl rfl rfl (ow_assign rfl rfl ?_))))))
 refine lw_nil (ew_then ?_)
 have hr1 : OwnRow RSpan w.heap.size 76 w M ([] : List Span) (.slice none 0 0) := ownrow_nil
 replace h := bind_some h
 obtain ⟨lr1, hlr1, h⟩ := h
 refine cw_for hlr1 (fun s a w' => ∃ (M' : Nat → Prop) (v0c : Value), Fits 107 [(0, v0p), (1, v1p), (2, (.int .i64 a_top)), (3, (.func (.func 111) #[] #[])), (9, v0c), (10, (.int .i64 s.2.1)), (11, (.int .i64 s.2.2.1)), (12, (.int .i64 s.2.2.2))] a ∧ Le w M w' M' ∧ Cx No w M w' M' ∧ OwnRow RSpan w.heap.size 76 w' M' s.1 v0c) ?_ ?_ ?_
 ·
  intro a ha
  exact ⟨M, (.slice none 0 0), ha.sub ⟨rfl, rfl, rfl, rfl, rfl, rfl, rfl, rfl, trivial⟩, Le.refl _ _, hC, hr1⟩
 ·
  rintro ⟨y1, k1, k2, k3⟩ a w1 sr1 ⟨M1, v1, hF1, hl1, hC1, hw1⟩ hb1 hR1
  refine cw_at (E := [(0, v0p), (1, v1p), (2, (.int .i64 a_top)), (3, (.func (.func 111) #[] #[])), (9, v1), (10, (.int .i64 k1)), (11, (.int .i64 k2)), (12, (.int .i64 k3))]) hF1 ?_
  refine cw_seq (cw_seq (cw_region (lw_op rfl rfl rfl (ow_move rfl rfl ?_))))
  refine lw_op rfl rfl rfl (ow_move rfl rfl ?_)
  refine lw_op rfl rfl rfl (ow_leq rfl rfl rfl fun bb1 hbb1 => ?_)
  refine lw_nil (ew_then ?_)
  replace hb1 := cond_some hb1
  rcases hb1 with ⟨hc1, hb1⟩ | ⟨hc1, hb1⟩
  ·
   obtain rfl := hbb1.trans hc1
   refine cw_true rfl ?_
   refine cw_skip (ew_then (cw_block ?_))
   refine cw_seq ?_
   replace hb1 := bind_some hb1
   obtain ⟨lr2, hlr2, hb1⟩ := hb1
   refine cw_for hlr2 (fun s a w' => ∃ (M' : Nat → Prop), Fits 107 [(0, v0p), (1, v1p), (2, (.int .i64 a_top)), (3, (.func (.func 111) #[] #[])), (9, v1), (10, (.int .i64 s.1)), (11, (.int .i64 k2)), (12, (.int .i64 k3))] a ∧ Le w1 M1 w' M' ∧ Cx No w M w' M' ∧ OwnRow RSpan w.heap.size 76 w' M' s.2 v1) ?_ ?_ ?_
   ·
    intro a ha
    exact ⟨M1, ha.sub ⟨rfl, rfl, rfl, rfl, rfl, rfl, rfl, rfl, trivial⟩, Le.refl _ _, hC1, hw1⟩
   ·
    rintro ⟨k4, y2⟩ a w2 sr2 ⟨M2, hF2, hl2, hC2, hw2⟩ hb2 hR2
    refine cw_at (E := [(0, v0p), (1, v1p), (2, (.int .i64 a_top)), (3, (.func (.func 111) #[] #[])), (9, v1), (10, (.int .i64 k4)), (11, (.int .i64 k2)), (12, (.int .i64 k3))]) hF2 ?_
    refine cw_seq (cw_seq (cw_region (lw_op rfl rfl rfl (ow_move rfl rfl ?_))))
    refine lw_op rfl rfl rfl (ow_move rfl rfl ?_)
    refine lw_op rfl rfl rfl (ow_len rfl rfl (VRep.mono (hl1.trans hl2) h0) Tryd.underlying58 rfl ?_)
    refine lw_op rfl rfl rfl (ow_lss rfl rfl rfl fun bb2 hbb2 => ?_)
    refine lw_op rfl rfl rfl (ow_move rfl rfl ?_)
    replace hb2 := cond_some hb2
    rcases hb2 with ⟨hc2, hb2⟩ | ⟨hc2, hb2⟩
    ·
     obtain rfl := hbb2.trans hc2
     refine lw_on rfl rfl rfl rfl rfl rfl (ow_move rfl rfl ?_)
     refine lw_on rfl rfl rfl rfl rfl rfl (ow_move rfl rfl ?_)
     replace hb2 := bind_some hb2
     obtain ⟨x1, hx1, hb2⟩ := hb2
     refine lw_on rfl rfl rfl rfl rfl rfl (ow_indexSlice (R := RSpan) rfl rfl rfl (VRep.mono (hl1.trans hl2) h0) Tryd.underlying58 (Tryd.sizeOf76 _) hx1 fun p1 hp1 => ?_)
     refine lw_on rfl rfl rfl rfl rfl rfl (ow_fieldAddr rfl rfl Tryd.underlying76 rfl (Tryd.sizeOf3 _) ?_)
     refine lw_on rfl rfl rfl rfl rfl rfl (ow_load (R := RInt) rfl rfl (hp1.fld fld_Span_Hi) (Tryd.sizeOf3 _) (Tryd.isAgg3 _) fun v7 hv7 => ?_)
     obtain rfl := vint_eq hv7
     refine lw_on rfl rfl rfl rfl rfl rfl (ow_move rfl rfl ?_)
     refine lw_on rfl rfl rfl rfl rfl rfl (ow_lss rfl rfl rfl fun bb3 hbb3 => ?_)
     refine lw_op rfl rfl rfl (ow_pickT rfl rfl rfl ?_)
     refine lw_nil (ew_then ?_)
     replace hb2 := cond_some hb2
     rcases hb2 with ⟨hc3, hb2⟩ | ⟨hc3, hb2⟩
     ·
      obtain rfl := hbb3.trans hc3
      refine cw_true rfl ?_
      refine cw_skip (ew_then (cw_block ?_))
      refine cw_region (lw_op rfl rfl rfl (ow_move rfl rfl ?_))
      refine lw_op rfl rfl rfl (ow_add rfl rfl rfl ?_)
      refine lw_op rfl rfl rfl (ow_assign rfl rfl ?_)
      refine lw_nil (ew_blockN ?_)
      refine ew_nxt ((W (k4 + 1)), y2) hb2 fun a ha => ⟨M2, ?_, hl2, hC2, hw2⟩
      exact ha.sub ⟨rfl, rfl, rfl, rfl, rfl, rfl, rfl, rfl, trivial⟩
     ·
      obtain rfl := hbb3.trans hc3
      refine cw_false rfl ?_
      refine cw_exit ?_
      refine ew_thenX ?_
      refine ew_thenX ?_
      refine ew_blockX ?_
      refine ew_brk (k4, y2) hb2 fun a ha => ⟨M2, ?_, hl2, hC2, hw2⟩
      exact ha.sub ⟨rfl, rfl, rfl, rfl, rfl, rfl, rfl, rfl, trivial⟩
    ·
     obtain rfl := hbb2.trans hc2
     refine lw_off rfl rfl rfl rfl rfl rfl ?_
     refine lw_off rfl rfl rfl rfl rfl rfl ?_
     refine lw_off rfl rfl rfl rfl rfl rfl ?_
     refine lw_off rfl rfl rfl rfl rfl rfl ?_
     refine lw_off rfl rfl rfl rfl rfl rfl ?_
     refine lw_off rfl rfl rfl rfl rfl rfl ?_
     refine lw_off rfl rfl rfl rfl rfl rfl ?_
     refine lw_op rfl rfl rfl (ow_pickF rfl rfl rfl ?_)
     refine lw_nil (ew_then (cw_false rfl ?_))
     refine cw_exit ?_
     refine ew_thenX ?_
     refine ew_thenX ?_
     refine ew_blockX ?_
     refine ew_brk (k4, y2) hb2 fun a ha => ⟨M2, ?_, hl2, hC2, hw2⟩
     exact ha.sub ⟨rfl, rfl, rfl, rfl, rfl, rfl, rfl, rfl, trivial⟩
   ·
    rintro ⟨k5, y3⟩ a w3 hlr3 ⟨M3, hF3, hl3, hC3, hw3⟩
    subst hlr3
    refine ew_at (E := [(0, v0p), (1, v1p), (2, (.int .i64 a_top)), (3, (.func (.func 111) #[] #[])), (9, v1), (10, (.int .i64 k5)), (11, (.int .i64 k2)), (12, (.int .i64 k3))]) hF3 ?_
    refine ew_then (cw_seq ?_)
    replace hb1 := bind_some hb1
    obtain ⟨lr3, hlr4, hb1⟩ := hb1
    refine cw_for hlr4 (fun s a w' => ∃ (M' : Nat → Prop), Fits 107 [(0, v0p), (1, v1p), (2, (.int .i64 a_top)), (3, (.func (.func 111) #[] #[])), (9, v1), (10, (.int .i64 k5)), (11, (.int .i64 s.1)), (12, (.int .i64 k3))] a ∧ Le w3 M3 w' M' ∧ Cx No w M w' M' ∧ OwnRow RSpan w.heap.size 76 w' M' s.2 v1) ?_ ?_ ?_
    ·
     intro a ha
     exact ⟨M3, ha.sub ⟨rfl, rfl, rfl, rfl, rfl, rfl, rfl, rfl, trivial⟩, Le.refl _ _, hC3, hw3⟩
    ·
     rintro ⟨k6, y4⟩ a w4 sr3 ⟨M4, hF4, hl4, hC4, hw4⟩ hb3 hR3
     refine cw_at (E := [(0, v0p), (1, v1p), (2, (.int .i64 a_top)), (3, (.func (.func 111) #[] #[])), (9, v1), (10, (.int .i64 k5)), (11, (.int .i64 k6)), (12, (.int .i64 k3))]) hF4 ?_
     refine cw_seq (cw_seq (cw_region (lw_op rfl rfl rfl (ow_move rfl rfl ?_))))
     refine lw_op rfl rfl rfl (ow_move rfl rfl ?_)
     refine lw_op rfl rfl rfl (ow_len rfl rfl (VRep.mono ((hl1.trans hl3).trans hl4) h1) Tryd.underlying58 rfl ?_)
     refine lw_op rfl rfl rfl (ow_lss rfl rfl rfl fun bb4 hbb4 => ?_)
     refine lw_op rfl rfl rfl (ow_move rfl rfl ?_)
     replace hb3 := cond_some hb3
     rcases hb3 with ⟨hc4, hb3⟩ | ⟨hc4, hb3⟩
     ·
      obtain rfl := hbb4.trans hc4
      refine lw_on rfl rfl rfl rfl rfl rfl (ow_move rfl rfl ?_)
      refine lw_on rfl rfl rfl rfl rfl rfl (ow_move rfl rfl ?_)
      replace hb3 := bind_some hb3
      obtain ⟨x2, hx2, hb3⟩ := hb3
      refine lw_on rfl rfl rfl rfl rfl rfl (ow_indexSlice (R := RSpan) rfl rfl rfl (VRep.mono ((hl1.trans hl3).trans hl4) h1) Tryd.underlying58 (Tryd.sizeOf76 _) hx2 fun p2 hp2 => ?_)
      refine lw_on rfl rfl rfl rfl rfl rfl (ow_fieldAddr rfl rfl Tryd.underlying76 rfl (Tryd.sizeOf3 _) ?_)
      refine lw_on rfl rfl rfl rfl rfl rfl (ow_load (R := RInt) rfl rfl (hp2.fld fld_Span_Hi) (Tryd.sizeOf3 _) (Tryd.isAgg3 _) fun v12 hv12 => ?_)
      obtain rfl := vint_eq hv12
      refine lw_on rfl rfl rfl rfl rfl rfl (ow_move rfl rfl ?_)
      refine lw_on rfl rfl rfl rfl rfl rfl (ow_lss rfl rfl rfl fun bb5 hbb5 => ?_)
      refine lw_op rfl rfl rfl (ow_pickT rfl rfl rfl ?_)
      refine lw_nil (ew_then ?_)
      replace hb3 := cond_some hb3
      rcases hb3 with ⟨hc5, hb3⟩ | ⟨hc5, hb3⟩
      ·
       obtain rfl := hbb5.trans hc5
       refine cw_true rfl ?_
       refine cw_skip (ew_then (cw_block ?_))
       refine cw_region (lw_op rfl rfl rfl (ow_move rfl rfl ?_))
       refine lw_op rfl rfl rfl (ow_add rfl rfl rfl ?_)
       refine lw_op rfl rfl rfl (ow_assign rfl rfl ?_)
       refine lw_nil (ew_blockN ?_)
       refine ew_nxt ((W (k6 + 1)), y4) hb3 fun a ha => ⟨M4, ?_, hl4, hC4, hw4⟩
       exact ha.sub ⟨rfl, rfl, rfl, rfl, rfl, rfl, rfl, rfl, trivial⟩
      ·
       obtain rfl := hbb5.trans hc5
       refine cw_false rfl ?_
       refine cw_exit ?_
       refine ew_thenX ?_
       refine ew_thenX ?_
       refine ew_blockX ?_
       refine ew_brk (k6, y4) hb3 fun a ha => ⟨M4, ?_, hl4, hC4, hw4⟩
       exact ha.sub ⟨rfl, rfl, rfl, rfl, rfl, rfl, rfl, rfl, trivial⟩
     ·
      obtain rfl := hbb4.trans hc4
      refine lw_off rfl rfl rfl rfl rfl rfl ?_
      refine lw_off rfl rfl rfl rfl rfl rfl ?_
      refine lw_off rfl rfl rfl rfl rfl rfl ?_
      refine lw_off rfl rfl rfl rfl rfl rfl ?_
      refine lw_off rfl rfl rfl rfl rfl rfl ?_
      refine lw_off rfl rfl rfl rfl rfl rfl ?_
      refine lw_off rfl rfl rfl rfl rfl rfl ?_
      refine lw_op rfl rfl rfl (ow_pickF rfl rfl rfl ?_)
      refine lw_nil (ew_then (cw_false rfl ?_))
      refine cw_exit ?_
      refine ew_thenX ?_
      refine ew_thenX ?_
      refine ew_blockX ?_
      refine ew_brk (k6, y4) hb3 fun a ha => ⟨M4, ?_, hl4, hC4, hw4⟩
      exact ha.sub ⟨rfl, rfl, rfl, rfl, rfl, rfl, rfl, rfl, trivial⟩
    ·
     rintro ⟨k7, y5⟩ a w5 hlr5 ⟨M5, hF5, hl5, hC5, hw5⟩
     subst hlr5
     refine ew_at (E := [(0, v0p), (1, v1p), (2, (.int .i64 a_top)), (3, (.func (.func 111) #[] #[])), (9, v1), (10, (.int .i64 k5)), (11, (.int .i64 k7)), (12, (.int .i64 k3))]) hF5 ?_
     refine ew_then (cw_seq (cw_region (lw_op rfl rfl rfl (ow_move rfl rfl ?_))))
     refine lw_op rfl rfl rfl (ow_move rfl rfl ?_)
     replace hb1 := bind_some hb1
     obtain ⟨y6, hy6, hb1⟩ := hb1
     refine lw_op rfl rfl rfl (ow_sliceFrom (R := RSpan) rfl rfl rfl (VRep.mono ((hl1.trans hl3).trans hl5) h0) Tryd.underlying58 (Tryd.sizeOf76 _) (dropF_some hy6).2 fun v15 hv15 => ?_)
     rw [← (dropF_some hy6).1] at hv15
     refine lw_op rfl rfl rfl (ow_move rfl rfl ?_)
     refine lw_op rfl rfl rfl (ow_move rfl rfl ?_)
     replace hb1 := bind_some hb1
     obtain ⟨x3, hx3, hb1⟩ := hb1
     refine lw_op rfl rfl rfl (ow_call rfl rfl Tryd.call114 (w_impl_stretch (hG.mono ((hl1.trans hl3).trans hl5)) hC5.old hv15 hx3) fun v16 w6 hv16 => ?_)
     obtain ⟨⟨v17, v18, rfl, hv17, hv18⟩, hb4⟩ := hv16
     have hl6 := Le.no M5 hb4
     have hC6 := hC5.no hb4
     have hr2 := hw5.no hb4
     obtain ⟨bb6, hbb6, rfl⟩ := vbool_ex hv17
     obtain rfl := vint_eq hv18
     refine lw_op rfl rfl rfl (ow_move rfl rfl ?_)
     refine lw_op rfl rfl rfl (ow_extract rfl rfl rfl ?_)
     refine lw_op rfl rfl rfl (ow_extract rfl rfl rfl ?_)
     refine lw_op rfl rfl rfl (ow_assign rfl rfl ?_)
     refine lw_op rfl rfl rfl (ow_assign rfl rfl ?_)
     refine lw_nil (ew_then (cw_seq (cw_region (lw_op rfl rfl rfl (ow_move rfl rfl ?_)))))
     refine lw_op rfl rfl rfl (ow_move rfl rfl ?_)
     replace hb1 := bind_some hb1
     obtain ⟨y7, hy7, hb1⟩ := hb1
     refine lw_op rfl rfl rfl (ow_sliceFrom (R := RSpan) rfl rfl rfl (VRep.mono (((hl1.trans hl3).trans hl5).trans hl6) h1) Tryd.underlying58 (Tryd.sizeOf76 _) (dropF_some hy7).2 fun v19 hv19 => ?_)
     rw [← (dropF_some hy7).1] at hv19
     refine lw_op rfl rfl rfl (ow_move rfl rfl ?_)
     refine lw_op rfl rfl rfl (ow_move rfl rfl ?_)
     replace hb1 := bind_some hb1
     obtain ⟨x4, hx4, hb1⟩ := hb1
     refine lw_op rfl rfl rfl (ow_call rfl rfl Tryd.call114 (w_impl_stretch (hG.mono (((hl1.trans hl3).trans hl5).trans hl6)) hC6.old hv19 hx4) fun v20 w7 hv20 => ?_)
     obtain ⟨⟨v21, v22, rfl, hv21, hv22⟩, hb5⟩ := hv20
     have hl7 := Le.no M5 hb5
     have hC7 := hC6.no hb5
     have hr3 := hr2.no hb5
     obtain ⟨bb7, hbb7, rfl⟩ := vbool_ex hv21
     obtain rfl := vint_eq hv22
     refine lw_op rfl rfl rfl (ow_move rfl rfl ?_)
     refine lw_op rfl rfl rfl (ow_extract rfl rfl rfl ?_)
     refine lw_op rfl rfl rfl (ow_extract rfl rfl rfl ?_)
     refine lw_op rfl rfl rfl (ow_assign rfl rfl ?_)
     refine lw_op rfl rfl rfl (ow_assign rfl rfl ?_)
     refine lw_nil (ew_then (cw_seq (cw_region (lw_op rfl rfl rfl (ow_move rfl rfl ?_)))))
     refine lw_op rfl rfl rfl (ow_move rfl rfl ?_)
     refine lw_op rfl rfl rfl (ow_min rfl rfl rfl ?_)
     refine lw_op rfl rfl rfl (ow_assign rfl rfl ?_)
     refine lw_nil (ew_then (cw_seq (cw_seq (cw_region (lw_op rfl rfl rfl (ow_move rfl rfl ?_))))))
     refine lw_op rfl rfl rfl (ow_move rfl rfl ?_)
     refine lw_op rfl rfl rfl (ow_move rfl rfl ?_)
     replace hb1 := bind_some hb1
     obtain ⟨x5, hx5, hb1⟩ := hb1
     refine lw_op rfl rfl rfl (ow_callv rfl rfl rfl Tryd.call111 (w_impl_inBoth (hG.mono ((((hl1.trans hl3).trans hl5).trans hl6).trans hl7)) hC7.old hbb6 hbb7 hx5) fun v23 w8 hv23 => ?_)
     obtain ⟨hv23, hb6⟩ := hv23
     have hl8 := Le.no M5 hb6
     have hC8 := hC7.no hb6
     have hr4 := hr3.no hb6
     obtain rfl := vbool_eq hv23
     refine lw_nil (ew_then ?_)
     replace hb1 := cond_some hb1
     rcases hb1 with ⟨hc6, hb1⟩ | ⟨hc6, hb1⟩
     ·
      subst hc6
      refine cw_true rfl ?_
      refine cw_seq (cw_region (lw_op rfl rfl rfl (ow_move rfl rfl ?_)))
      refine lw_op rfl rfl rfl (ow_lenOwn rfl rfl hr4 Tryd.underlying58 ?_)
      refine lw_op rfl rfl rfl (ow_assign rfl rfl ?_)
      refine lw_nil (ew_then (cw_seq (cw_region (lw_op rfl rfl rfl (ow_move rfl rfl ?_)))))
      refine lw_op rfl rfl rfl (ow_gtr rfl rfl rfl fun bb8 hbb8 => ?_)
      refine lw_op rfl rfl rfl (ow_move rfl rfl ?_)
      replace hb1 := cond_some hb1
      rcases hb1 with ⟨hc7, hb1⟩ | ⟨hc7, hb1⟩
      ·
       obtain rfl := hbb8.trans hc7
       refine lw_on rfl rfl rfl rfl rfl rfl (ow_move rfl rfl ?_)
       refine lw_on rfl rfl rfl rfl rfl rfl (ow_move rfl rfl ?_)
       refine lw_on rfl rfl rfl rfl rfl rfl (ow_sub rfl rfl rfl ?_)
       replace hb1 := bind_some hb1
       obtain ⟨x6, hx6, hb1⟩ := hb1
       refine lw_on rfl rfl rfl rfl rfl rfl (ow_indexRow (R := RSpan) rfl rfl rfl hr4 Tryd.underlying58 (Tryd.sizeOf76 _) hx6 ?_)
       refine lw_on rfl rfl rfl rfl rfl rfl (ow_fieldAddr rfl rfl Tryd.underlying76 rfl (Tryd.sizeOf3 _) ?_)
       refine lw_on rfl rfl rfl rfl rfl rfl (ow_loadElRow (R := RSpan) (S := RInt) rfl rfl rfl hr4 (orow_blk hr4 hx6) hx6 fld_Span_Hi (Tryd.sizeOf3 _) (Tryd.isAgg3 _) fun v24 hv24 => ?_)
       obtain rfl := vint_eq hv24
       refine lw_on rfl rfl rfl rfl rfl rfl (ow_add rfl rfl rfl ?_)
       refine lw_on rfl rfl rfl rfl rfl rfl (ow_move rfl rfl ?_)
       refine lw_on rfl rfl rfl rfl rfl rfl (ow_eqlI rfl rfl rfl fun bb9 hbb9 => ?_)
       refine lw_op rfl rfl rfl (ow_pickT rfl rfl rfl ?_)
       refine lw_nil (ew_then ?_)
       replace hb1 := cond_some hb1
       rcases hb1 with ⟨hc8, hb1⟩ | ⟨hc8, hb1⟩
       ·
        obtain rfl := hbb9.trans hc8
        refine cw_true rfl ?_
        refine cw_region (lw_op rfl rfl rfl (ow_move rfl rfl ?_))
        refine lw_op rfl rfl rfl (ow_move rfl rfl ?_)
        refine lw_op rfl rfl rfl (ow_sub rfl rfl rfl ?_)
        refine lw_op rfl rfl rfl (ow_move rfl rfl ?_)
        refine lw_op rfl rfl rfl (ow_indexRow (R := RSpan) rfl rfl rfl hr4 Tryd.underlying58 (Tryd.sizeOf76 _) hx6 ?_)
        refine lw_op rfl rfl rfl (ow_fieldAddr rfl rfl Tryd.underlying76 rfl (Tryd.sizeOf3 _) ?_)
        refine lw_op0 rfl rfl (ow_storeElRow (X := No) (R := RSpan) (S := RInt) rfl rfl rfl rfl hr4 (orow_blk hr4 hx6) hx6 set_Span_Hi (Tryd.sizeOf3 _) (vint _) (Nat.le_refl _) hC8 fun w9 ho1 hb7 hl9 hC9 => ?_)
        refine lw_nil (ew_then (cw_region (lw_op rfl rfl rfl (ow_move rfl rfl ?_))))
        refine lw_op rfl rfl rfl (ow_add rfl rfl rfl ?_)
        refine lw_op rfl rfl rfl (ow_assign rfl rfl ?_)
        refine lw_nil (ew_blockN ?_)
        refine ew_nxt ((List.set y5 ((W ((y5.length : Int) - 1)) : Int).toNat { x6 with Hi := (imin x3.2 x4.2) }), k5, k7, (W ((imin x3.2 x4.2) + 1))) hb1 fun a ha => ⟨M5, v1, ?_, ((((((hl1.trans hl3).trans hl5).trans hl6).trans hl7).trans hl8).trans hl9), hC9, ho1⟩
        exact ha.sub ⟨rfl, rfl, rfl, rfl, rfl, rfl, rfl, rfl, trivial⟩
       ·
        obtain rfl := hbb9.trans hc8
        refine cw_false rfl ?_
        refine cw_region (lw_op rfl rfl rfl (ow_move rfl rfl ?_))
        refine lw_op rfl rfl rfl (ow_move rfl rfl ?_)
        refine lw_op rfl rfl rfl (ow_move rfl rfl ?_)
        refine lw_op rfl rfl rfl (ow_build (v := .agg #[(.int .i64 k3), (.int .i64 (imin x3.2 x4.2))]) rfl rfl (by kernel_rfl) ?_)
        have hw6 : VRep RSpan w8 M5 ({ Lo := k3, Hi := (imin x3.2 x4.2) } : Span) (.agg #[(.int .i64 k3), (.int .i64 (imin x3.2 x4.2))]) := shut_Span
        refine lw_op rfl rfl rfl (ow_buildSlice (R := RSpan) (xs := [({ Lo := k3, Hi := (imin x3.2 x4.2) } : Span)]) (cs := #[(.int .i64 k3), (.int .i64 (imin x3.2 x4.2))]) (e := 76) rfl rfl (by kernel_rfl) rfl rfl ⟨_, _, rfl, hw6.cells, rfl⟩ hC8 fun p3 w10 hw7 hb8 hl10 hC10 => ?_)
        have hr5 := hr4.no hb8
        replace hb1 := bind_some hb1
        obtain ⟨z1, hz1, hb1⟩ := hb1
        refine lw_op rfl rfl rfl (ow_append (R := RSpan) rfl rfl rfl rfl Tryd.underlying58 hi76 hz76 hs76 hy76 rfl rfl rfl rfl hr5 hw7 hz1 hC10 fun v25 w11 M6 hr6 hb9 hl11 hC11 hM1 hat1 => ?_)
        refine lw_op rfl rfl rfl (ow_assign rfl rfl ?_)
        refine lw_nil (ew_then (cw_region (lw_op rfl rfl rfl (ow_move rfl rfl ?_))))
        refine lw_op rfl rfl rfl (ow_add rfl rfl rfl ?_)
        refine lw_op rfl rfl rfl (ow_assign rfl rfl ?_)
        refine lw_nil (ew_blockN ?_)
        refine ew_nxt (z1, k5, k7, (W ((imin x3.2 x4.2) + 1))) hb1 fun a ha => ⟨M6, v25, ?_, (((((((hl1.trans hl3).trans hl5).trans hl6).trans hl7).trans hl8).trans hl10).trans hl11), hC11, hr6⟩
        exact ha.sub ⟨rfl, rfl, rfl, rfl, rfl, rfl, rfl, rfl, trivial⟩
      ·
       obtain rfl := hbb8.trans hc7
       refine lw_off rfl rfl rfl rfl rfl rfl ?_
       refine lw_off rfl rfl rfl rfl rfl rfl ?_
       refine lw_off rfl rfl rfl rfl rfl rfl ?_
       refine lw_off rfl rfl rfl rfl rfl rfl ?_
       refine lw_off rfl rfl rfl rfl rfl rfl ?_
       refine lw_off rfl rfl rfl rfl rfl rfl ?_
       refine lw_off rfl rfl rfl rfl rfl rfl ?_
       refine lw_off rfl rfl rfl rfl rfl rfl ?_
       refine lw_off rfl rfl rfl rfl rfl rfl ?_
       refine lw_op rfl rfl rfl (ow_pickF rfl rfl rfl ?_)
       refine lw_nil (ew_then (cw_false rfl ?_))
       refine cw_region (lw_op rfl rfl rfl (ow_move rfl rfl ?_))
       refine lw_op rfl rfl rfl (ow_move rfl rfl ?_)
       refine lw_op rfl rfl rfl (ow_move rfl rfl ?_)
       refine lw_op rfl rfl rfl (ow_build (v := .agg #[(.int .i64 k3), (.int .i64 (imin x3.2 x4.2))]) rfl rfl (by kernel_rfl) ?_)
       have hw8 : VRep RSpan w8 M5 ({ Lo := k3, Hi := (imin x3.2 x4.2) } : Span) (.agg #[(.int .i64 k3), (.int .i64 (imin x3.2 x4.2))]) := shut_Span
       refine lw_op rfl rfl rfl (ow_buildSlice (R := RSpan) (xs := [({ Lo := k3, Hi := (imin x3.2 x4.2) } : Span)]) (cs := #[(.int .i64 k3), (.int .i64 (imin x3.2 x4.2))]) (e := 76) rfl rfl (by kernel_rfl) rfl rfl ⟨_, _, rfl, hw8.cells, rfl⟩ hC8 fun p4 w12 hw9 hb10 hl12 hC12 => ?_)
       have hr7 := hr4.no hb10
       replace hb1 := bind_some hb1
       obtain ⟨z2, hz2, hb1⟩ := hb1
       refine lw_op rfl rfl rfl (ow_append (R := RSpan) rfl rfl rfl rfl Tryd.underlying58 hi76 hz76 hs76 hy76 rfl rfl rfl rfl hr7 hw9 hz2 hC12 fun v26 w13 M7 hr8 hb11 hl13 hC13 hM2 hat2 => ?_)
       refine lw_op rfl rfl rfl (ow_assign rfl rfl ?_)
       refine lw_nil (ew_then (cw_region (lw_op rfl rfl rfl (ow_move rfl rfl ?_))))
       refine lw_op rfl rfl rfl (ow_add rfl rfl rfl ?_)
       refine lw_op rfl rfl rfl (ow_assign rfl rfl ?_)
       refine lw_nil (ew_blockN ?_)
       refine ew_nxt (z2, k5, k7, (W ((imin x3.2 x4.2) + 1))) hb1 fun a ha => ⟨M7, v26, ?_, (((((((hl1.trans hl3).trans hl5).trans hl6).trans hl7).trans hl8).trans hl12).trans hl13), hC13, hr8⟩
       exact ha.sub ⟨rfl, rfl, rfl, rfl, rfl, rfl, rfl, rfl, trivial⟩
     ·
      subst hc6
      refine cw_false rfl ?_
      refine cw_skip (ew_then (cw_region (lw_op rfl rfl rfl (ow_move rfl rfl ?_))))
      refine lw_op rfl rfl rfl (ow_add rfl rfl rfl ?_)
      refine lw_op rfl rfl rfl (ow_assign rfl rfl ?_)
      refine lw_nil (ew_blockN ?_)
      refine ew_nxt (y5, k5, k7, (W ((imin x3.2 x4.2) + 1))) hb1 fun a ha => ⟨M5, v1, ?_, (((((hl1.trans hl3).trans hl5).trans hl6).trans hl7).trans hl8), hC8, hr4⟩
      exact ha.sub ⟨rfl, rfl, rfl, rfl, rfl, rfl, rfl, rfl, trivial⟩
  ·
   obtain rfl := hbb1.trans hc1
   refine cw_false rfl ?_
   refine cw_exit ?_
   refine ew_thenX ?_
   refine ew_thenX ?_
   refine ew_blockX ?_
   refine ew_brk (y1, k1, k2, k3) hb1 fun a ha => ⟨M1, v1, ?_, hl1, hC1, hw1⟩
   exact ha.sub ⟨rfl, rfl, rfl, rfl, rfl, rfl, rfl, rfl, trivial⟩
 ·
  rintro ⟨y8, k8, k9, k10⟩ a w14 hlr6 ⟨M8, v27, hF6, hl14, hC14, hw10⟩
  subst hlr6
  refine ew_at (E := [(0, v0p), (1, v1p), (2, (.int .i64 a_top)), (3, (.func (.func 111) #[] #[])), (9, v27), (10, (.int .i64 k8)), (11, (.int .i64 k9)), (12, (.int .i64 k10))]) hF6 ?_
  refine ew_then (cw_seq (cw_region (lw_op rfl rfl rfl (ow_move rfl rfl ?_))))
  refine lw_op rfl rfl rfl (ow_assign rfl rfl ?_)
  refine lw_nil (ew_then (cw_ret ?_))
  obtain rfl := Option.some.inj h
  exact ew_ret (res1 rfl (.tmp rfl)) ⟨_, rfl, (hw10.freezeBack hC14 hO), hC14.bx⟩

theorem w_impl_meetSpans {w : World} {M : Nat → Prop} (hG : ARep (RArr 4 RShape) w M shapes ⟨0, 0, none⟩) (hO : ∀ b, M b → b < w.heap.size) {v0p : Value} {a_a : List Span} (h0 : VRep (RSlice RSpan) w M a_a v0p) {v1p : Value} {a_b : List Span} (h1 : VRep (RSlice RSpan) w M a_b v1p) {a_top : Int} {r : (List Span) × Bool} (h : F.impl_meetSpans a_a a_b a_top = some r) :
  Calls Tryd.prog 95 [v0p, v1p, (.int .i64 a_top)].toArray w fun e w' => ∃ v, e = .returned v ∧ (∃ u0 u1, v = .tuple #[u0, u1] ∧ VRep (RSlice RSpan) w' M r.1 u0 ∧ VRep RBool w' M r.2 u1) ∧ BX No w w' := by
 have hC : Cx No w M w M := Cx.start hO (fun _ e => e.elim)
 refine walk (N := 15) Tryd.func95 rfl Tryd.ntmps95 rfl ?_
 refine cw_seq (cw_region (lw_op rfl rfl rfl (ow_assign rfl rfl ?_)))
 refine lw_op rfl rfl rfl (ow_assign rfl rfl ?_)
 refine lw_nil (ew_then (cw_seq (cw_region (lw_op rfl rfl rfl (ow_move rfl rfl ?_)))))
 refine lw_op rfl rfl rfl (ow_move rfl rfl ?_)
 refine lw_op rfl rfl rfl (ow_move rfl rfl ?_)
 replace h := bind_some h
 obtain ⟨x1, hx1, h⟩ := h
 refine lw_op rfl rfl rfl (ow_call rfl rfl Tryd.call99 (w_impl_sweepSpans__impl_inBoth hG hC.old h0 h1 hx1) fun v1 w1 hv1 => ?_)
 obtain ⟨hv1, hb1⟩ := hv1
 have hl1 := Le.no M hb1
 have hC1 := hC.no hb1
 replace h := bind_some h
 obtain ⟨x2, hx2, h⟩ := h
 refine lw_op rfl rfl rfl (ow_call rfl rfl Tryd.call110 (w_impl_limitSpans (hG.mono hl1) hC1.old hv1 hx2) fun v2 w2 hv2 => ?_)
 obtain ⟨⟨v3, v4, rfl, hv3, hv4⟩, hb2⟩ := hv2
 have hl2 := Le.no M hb2
 have hC2 := hC1.no hb2
 obtain ⟨bb1, hbb1, rfl⟩ := vbool_ex hv4
 refine lw_op rfl rfl rfl (ow_extract rfl rfl rfl ?_)
 refine lw_op rfl rfl rfl (ow_extract rfl rfl rfl ?_)
 refine lw_op rfl rfl rfl (ow_assign rfl rfl ?_)
 refine lw_op rfl rfl rfl (ow_assign rfl rfl ?_)
 refine lw_nil (ew_then (cw_ret ?_))
 obtain rfl := Option.some.inj h
 exact ew_ret (res2 rfl (.tmp rfl) (.tmp rfl)) ⟨_, rfl, ⟨_, _, rfl, (VRep.mono hC2.back hv3), ((vbool_of hbb1))⟩, hC2.bx⟩

theorem w_impl_Test_spans {w : World} {M : Nat → Prop} (hG : ARep (RArr 4 RShape) w M shapes ⟨0, 0, none⟩) (hO : ∀ b, M b → b < w.heap.size) {v0p : Value} {a_t : Test} (h0 : VRep RTest w M a_t v0p) {r : (List Span)} (h : F.impl_Test_spans a_t = some r) :
  Calls Tryd.prog 96 [v0p].toArray w fun e w' => ∃ v, e = .returned v ∧ VRep (RSlice RSpan) w' M r v ∧ BX No w w' := by
 obtain ⟨i76, hi76, hz76, hs76, hy76⟩ := info76
 have hC : Cx No w M w M := Cx.start hO (fun _ e => e.elim)
 refine walk (N := 40) Tryd.func96 rfl Tryd.ntmps96 rfl ?_
 refine cw_seq (cw_region (lw_op rfl rfl rfl (ow_box (R := RTest) rfl rfl h0 hC fun p1 w1 hp1 hb1 hl1 hC1 => ?_)))
 refine lw_op rfl rfl rfl (ow_assign rfl rfl ?_)
 refine lw_nil (ew_then (cw_seq (cw_seq (cw_region (lw_op rfl rfl rfl (ow_fieldAddr rfl rfl Tryd.underlying31 rfl (Tryd.sizeOf4 _) ?_))))))
 refine lw_op rfl rfl rfl (ow_load (R := RBool) rfl rfl (hp1.fld fld_Test_Not) (Tryd.sizeOf4 _) (Tryd.isAgg4 _) fun v1 hv1 => ?_)
 obtain ⟨bb1, hbb1, rfl⟩ := vbool_ex hv1
 refine lw_op rfl rfl rfl (ow_not rfl rfl ?_)
 refine lw_nil (ew_then ?_)
 replace h := cond_some h
 rcases h with ⟨hc1, h⟩ | ⟨hc1, h⟩
 ·
  obtain rfl := hbb1.trans hc1
  refine cw_false rfl ?_
  refine cw_skip (ew_then (cw_seq (cw_region (lw_op rfl rfl rfl (ow_assign rfl rfl ?_)))))
  refine lw_nil (ew_then (cw_seq (cw_seq (cw_region (lw_op rfl rfl rfl (ow_fieldAddr rfl rfl Tryd.underlying31 rfl (Tryd.sizeOf3 _) ?_))))))
  refine lw_op rfl rfl rfl (ow_load (R := RInt) rfl rfl (hp1.fld fld_Test_Lo) (Tryd.sizeOf3 _) (Tryd.isAgg3 _) fun v2 hv2 => ?_)
  obtain rfl := vint_eq hv2
  refine lw_op rfl rfl rfl (ow_gtr rfl rfl rfl fun bb2 hbb2 => ?_)
  refine lw_nil (ew_then ?_)
  replace h := cond_some h
  rcases h with ⟨hc2, h⟩ | ⟨hc2, h⟩
  ·
   obtain rfl := hbb2.trans hc2
   refine cw_true rfl ?_
   refine cw_region (lw_op rfl rfl rfl (ow_move rfl rfl ?_))
   refine lw_op rfl rfl rfl (ow_fieldAddr rfl rfl Tryd.underlying31 rfl (Tryd.sizeOf3 _) ?_)
   refine lw_op rfl rfl rfl (ow_load (R := RInt) rfl rfl (hp1.fld fld_Test_Lo) (Tryd.sizeOf3 _) (Tryd.isAgg3 _) fun v3 hv3 => ?_)
   obtain rfl := vint_eq hv3
   refine lw_op rfl rfl rfl (ow_sub rfl rfl rfl ?_)
   refine lw_op rfl rfl rfl (ow_build (v := .agg #[(.int .i64 0), (.int .i64 (W (a_t.Lo - 1)))]) rfl rfl (by kernel_rfl) ?_)
   have hw1 : VRep RSpan w1 M ({ Lo := 0, Hi := (W (a_t.Lo - 1)) } : Span) (.agg #[(.int .i64 0), (.int .i64 (W (a_t.Lo - 1)))]) := shut_Span
   refine lw_op rfl rfl rfl (ow_buildSlice (R := RSpan) (xs := [({ Lo := 0, Hi := (W (a_t.Lo - 1)) } : Span)]) (cs := #[(.int .i64 0), (.int .i64 (W (a_t.Lo - 1)))]) (e := 76) rfl rfl (by kernel_rfl) rfl rfl ⟨_, _, rfl, hw1.cells, rfl⟩ hC1 fun p2 w2 hw2 hb2 hl2 hC2 => ?_)
   replace h := bind_some h
   obtain ⟨z1, hz1, h⟩ := h
   refine lw_op rfl rfl rfl (ow_append (R := RSpan) rfl rfl rfl rfl Tryd.underlying58 hi76 hz76 hs76 hy76 rfl rfl rfl rfl ownrow_nil hw2 hz1 hC2 fun v4 w3 M1 hr1 hb3 hl3 hC3 hM1 hat1 => ?_)
   refine lw_op rfl rfl rfl (ow_assign rfl rfl ?_)
   refine lw_nil (ew_then (cw_seq (cw_seq (cw_region (lw_op rfl rfl rfl (ow_fieldAddr rfl rfl Tryd.underlying31 rfl (Tryd.sizeOf3 _) ?_))))))
   refine lw_op rfl rfl rfl (ow_load (R := RInt) rfl rfl (ARep.mono (hl2.trans hl3) (hp1.fld fld_Test_Field)) (Tryd.sizeOf3 _) (Tryd.isAgg3 _) fun v5 hv5 => ?_)
   obtain rfl := vint_eq hv5
   replace h := bind_some h
   obtain ⟨x1, hx1, h⟩ := h
   refine lw_op rfl rfl rfl (ow_call rfl rfl Tryd.call69 (w_impl_FieldTop (hG.mono ((hl1.trans hl2).trans hl3)) hC3.old hx1) fun v6 w4 hv6 => ?_)
   obtain ⟨hv6, hb4⟩ := hv6
   have hl4 := Le.no M1 hb4
   have hC4 := hC3.no hb4
   have hr2 := hr1.no hb4
   obtain rfl := vint_eq hv6
   refine lw_op rfl rfl rfl (ow_assign rfl rfl ?_)
   refine lw_nil (ew_then (cw_seq (cw_region (lw_op rfl rfl rfl (ow_fieldAddr rfl rfl Tryd.underlying31 rfl (Tryd.sizeOf3 _) ?_)))))
   refine lw_op rfl rfl rfl (ow_load (R := RInt) rfl rfl (ARep.mono ((hl2.trans hl3).trans hl4) (hp1.fld fld_Test_Hi)) (Tryd.sizeOf3 _) (Tryd.isAgg3 _) fun v7 hv7 => ?_)
   obtain rfl := vint_eq hv7
   refine lw_op rfl rfl rfl (ow_move rfl rfl ?_)
   refine lw_op rfl rfl rfl (ow_lss rfl rfl rfl fun bb3 hbb3 => ?_)
   refine lw_nil (ew_then ?_)
   replace h := cond_some h
   rcases h with ⟨hc3, h⟩ | ⟨hc3, h⟩
   ·
    obtain rfl := hbb3.trans hc3
    refine cw_true rfl ?_
    refine cw_region (lw_op rfl rfl rfl (ow_move rfl rfl ?_))
    refine lw_op rfl rfl rfl (ow_fieldAddr rfl rfl Tryd.underlying31 rfl (Tryd.sizeOf3 _) ?_)
    refine lw_op rfl rfl rfl (ow_load (R := RInt) rfl rfl (ARep.mono ((hl2.trans hl3).trans hl4) (hp1.fld fld_Test_Hi)) (Tryd.sizeOf3 _) (Tryd.isAgg3 _) fun v8 hv8 => ?_)
    obtain rfl := vint_eq hv8
    refine lw_op rfl rfl rfl (ow_add rfl rfl rfl ?_)
    refine lw_op rfl rfl rfl (ow_move rfl rfl ?_)
    refine lw_op rfl rfl rfl (ow_build (v := .agg #[(.int .i64 (W (a_t.Hi + 1))), (.int .i64 x1)]) rfl rfl (by kernel_rfl) ?_)
    have hw3 : VRep RSpan w4 M1 ({ Lo := (W (a_t.Hi + 1)), Hi := x1 } : Span) (.agg #[(.int .i64 (W (a_t.Hi + 1))), (.int .i64 x1)]) := shut_Span
    refine lw_op rfl rfl rfl (ow_buildSlice (R := RSpan) (xs := [({ Lo := (W (a_t.Hi + 1)), Hi := x1 } : Span)]) (cs := #[(.int .i64 (W (a_t.Hi + 1))), (.int .i64 x1)]) (e := 76) rfl rfl (by kernel_rfl) rfl rfl ⟨_, _, rfl, hw3.cells, rfl⟩ hC4 fun p3 w5 hw4 hb5 hl5 hC5 => ?_)
    have hr3 := hr2.no hb5
    replace h := bind_some h
    obtain ⟨z2, hz2, h⟩ := h
    refine lw_op rfl rfl rfl (ow_append (R := RSpan) rfl rfl rfl rfl Tryd.underlying58 hi76 hz76 hs76 hy76 rfl rfl rfl rfl hr3 hw4 hz2 hC5 fun v9 w6 M2 hr4 hb6 hl6 hC6 hM2 hat2 => ?_)
    refine lw_op rfl rfl rfl (ow_assign rfl rfl ?_)
    refine lw_nil (ew_then (cw_seq (cw_region (lw_op rfl rfl rfl (ow_move rfl rfl ?_)))))
    refine lw_op rfl rfl rfl (ow_assign rfl rfl ?_)
    refine lw_nil (ew_then (cw_ret ?_))
    obtain rfl := Option.some.inj h
    exact ew_ret (res1 rfl (.tmp rfl)) ⟨_, rfl, (hr4.freezeBack hC6 hO), hC6.bx⟩
   ·
    obtain rfl := hbb3.trans hc3
    refine cw_false rfl ?_
    refine cw_skip (ew_then (cw_seq (cw_region (lw_op rfl rfl rfl (ow_move rfl rfl ?_)))))
    refine lw_op rfl rfl rfl (ow_assign rfl rfl ?_)
    refine lw_nil (ew_then (cw_ret ?_))
    obtain rfl := Option.some.inj h
    exact ew_ret (res1 rfl (.tmp rfl)) ⟨_, rfl, (hr2.freezeBack hC4 hO), hC4.bx⟩
  ·
   obtain rfl := hbb2.trans hc2
   refine cw_false rfl ?_
   refine cw_skip (ew_then (cw_seq (cw_seq (cw_region (lw_op rfl rfl rfl (ow_fieldAddr rfl rfl Tryd.underlying31 rfl (Tryd.sizeOf3 _) ?_))))))
   refine lw_op rfl rfl rfl (ow_load (R := RInt) rfl rfl (hp1.fld fld_Test_Field) (Tryd.sizeOf3 _) (Tryd.isAgg3 _) fun v10 hv10 => ?_)
   obtain rfl := vint_eq hv10
   replace h := bind_some h
   obtain ⟨x2, hx2, h⟩ := h
   refine lw_op rfl rfl rfl (ow_call rfl rfl Tryd.call69 (w_impl_FieldTop (hG.mono hl1) hC1.old hx2) fun v11 w7 hv11 => ?_)
   obtain ⟨hv11, hb7⟩ := hv11
   have hl7 := Le.no M hb7
   have hC7 := hC1.no hb7
   obtain rfl := vint_eq hv11
   refine lw_op rfl rfl rfl (ow_assign rfl rfl ?_)
   refine lw_nil (ew_then (cw_seq (cw_region (lw_op rfl rfl rfl (ow_fieldAddr rfl rfl Tryd.underlying31 rfl (Tryd.sizeOf3 _) ?_)))))
   refine lw_op rfl rfl rfl (ow_load (R := RInt) rfl rfl (ARep.mono hl7 (hp1.fld fld_Test_Hi)) (Tryd.sizeOf3 _) (Tryd.isAgg3 _) fun v12 hv12 => ?_)
   obtain rfl := vint_eq hv12
   refine lw_op rfl rfl rfl (ow_move rfl rfl ?_)
   refine lw_op rfl rfl rfl (ow_lss rfl rfl rfl fun bb4 hbb4 => ?_)
   refine lw_nil (ew_then ?_)
   replace h := cond_some h
   rcases h with ⟨hc4, h⟩ | ⟨hc4, h⟩
   ·
    obtain rfl := hbb4.trans hc4
    refine cw_true rfl ?_
    refine cw_region (lw_op rfl rfl rfl (ow_move rfl rfl ?_))
    refine lw_op rfl rfl rfl (ow_fieldAddr rfl rfl Tryd.underlying31 rfl (Tryd.sizeOf3 _) ?_)
    refine lw_op rfl rfl rfl (ow_load (R := RInt) rfl rfl (ARep.mono hl7 (hp1.fld fld_Test_Hi)) (Tryd.sizeOf3 _) (Tryd.isAgg3 _) fun v13 hv13 => ?_)
    obtain rfl := vint_eq hv13
    refine lw_op rfl rfl rfl (ow_add rfl rfl rfl ?_)
    refine lw_op rfl rfl rfl (ow_move rfl rfl ?_)
    refine lw_op rfl rfl rfl (ow_build (v := .agg #[(.int .i64 (W (a_t.Hi + 1))), (.int .i64 x2)]) rfl rfl (by kernel_rfl) ?_)
    have hw5 : VRep RSpan w7 M ({ Lo := (W (a_t.Hi + 1)), Hi := x2 } : Span) (.agg #[(.int .i64 (W (a_t.Hi + 1))), (.int .i64 x2)]) := shut_Span
    refine lw_op rfl rfl rfl (ow_buildSlice (R := RSpan) (xs := [({ Lo := (W (a_t.Hi + 1)), Hi := x2 } : Span)]) (cs := #[(.int .i64 (W (a_t.Hi + 1))), (.int .i64 x2)]) (e := 76) rfl rfl (by kernel_rfl) rfl rfl ⟨_, _, rfl, hw5.cells, rfl⟩ hC7 fun p4 w8 hw6 hb8 hl8 hC8 => ?_)
    replace h := bind_some h
    obtain ⟨z3, hz3, h⟩ := h
    refine lw_op rfl rfl rfl (ow_append (R := RSpan) rfl rfl rfl rfl Tryd.underlying58 hi76 hz76 hs76 hy76 rfl rfl rfl rfl ownrow_nil hw6 hz3 hC8 fun v14 w9 M3 hr5 hb9 hl9 hC9 hM3 hat3 => ?_)
    refine lw_op rfl rfl rfl (ow_assign rfl rfl ?_)
    refine lw_nil (ew_then (cw_seq (cw_region (lw_op rfl rfl rfl (ow_move rfl rfl ?_)))))
    refine lw_op rfl rfl rfl (ow_assign rfl rfl ?_)
    refine lw_nil (ew_then (cw_ret ?_))
    obtain rfl := Option.some.inj h
    exact ew_ret (res1 rfl (.tmp rfl)) ⟨_, rfl, (hr5.freezeBack hC9 hO), hC9.bx⟩
   ·
    obtain rfl := hbb4.trans hc4
    refine cw_false rfl ?_
    refine cw_skip (ew_then (cw_seq (cw_region (lw_op rfl rfl rfl (ow_move rfl rfl ?_)))))
    refine lw_op rfl rfl rfl (ow_assign rfl rfl ?_)
    refine lw_nil (ew_then (cw_ret ?_))
    obtain rfl := Option.some.inj h
    exact ew_ret (res1 rfl (.tmp rfl)) ⟨_, rfl, (VRep.mono hC7.back (VRep.mono hl7 (vslice_nil (R := RSpan) (w := w1) (M := M)))), hC7.bx⟩
 ·
  obtain rfl := hbb1.trans hc1
  refine cw_true rfl ?_
  refine cw_seq (cw_region (lw_op rfl rfl rfl (ow_fieldAddr rfl rfl Tryd.underlying31 rfl (Tryd.sizeOf3 _) ?_)))
  refine lw_op rfl rfl rfl (ow_load (R := RInt) rfl rfl (hp1.fld fld_Test_Lo) (Tryd.sizeOf3 _) (Tryd.isAgg3 _) fun v15 hv15 => ?_)
  obtain rfl := vint_eq hv15
  refine lw_op rfl rfl rfl (ow_fieldAddr rfl rfl Tryd.underlying31 rfl (Tryd.sizeOf3 _) ?_)
  refine lw_op rfl rfl rfl (ow_load (R := RInt) rfl rfl (hp1.fld fld_Test_Hi) (Tryd.sizeOf3 _) (Tryd.isAgg3 _) fun v16 hv16 => ?_)
  obtain rfl := vint_eq hv16
  refine lw_op rfl rfl rfl (ow_build (v := .agg #[(.int .i64 a_t.Lo), (.int .i64 a_t.Hi)]) rfl rfl (by kernel_rfl) ?_)
  have hw7 : VRep RSpan w1 M ({ Lo := a_t.Lo, Hi := a_t.Hi } : Span) (.agg #[(.int .i64 a_t.Lo), (.int .i64 a_t.Hi)]) := shut_Span
  refine lw_op rfl rfl rfl (ow_buildSlice (R := RSpan) (xs := [({ Lo := a_t.Lo, Hi := a_t.Hi } : Span)]) (cs := #[(.int .i64 a_t.Lo), (.int .i64 a_t.Hi)]) (e := 76) rfl rfl (by kernel_rfl) rfl rfl ⟨_, _, rfl, hw7.cells, rfl⟩ hC1 fun p5 w10 hw8 hb10 hl10 hC10 => ?_)
  refine lw_op rfl rfl rfl (ow_assign rfl rfl ?_)
  refine lw_nil (ew_then (cw_ret (ew_thenR ?_)))
  obtain rfl := Option.some.inj h
  exact ew_ret (res1 rfl (.tmp rfl)) ⟨_, rfl, (VRep.mono hC10.back hw8), hC10.bx⟩

theorem w_impl_testsSides {w : World} {M : Nat → Prop} (hG : ARep (RArr 4 RShape) w M shapes ⟨0, 0, none⟩) (hO : ∀ b, M b → b < w.heap.size) {v0p : Value} {a_list : List Test} (h0 : VRep (RSlice RTest) w M a_list v0p) {r : (List (List Span))} (h : F.impl_testsSides a_list = some r) :
  Calls Tryd.prog 56 [v0p].toArray w fun e w' => ∃ v, e = .returned v ∧ VRep (RArr 4 (RSlice RSpan)) w' M r v ∧ BX No w w' := by
 have hC : Cx No w M w M := Cx.start hO (fun _ e => e.elim)
 refine walk (N := 31) Tryd.func56 rfl Tryd.ntmps56 rfl ?_
 refine cw_seq (cw_region (lw_op rfl rfl rfl (ow_alloc rfl (Tryd.zeroValue69 _) hC fun g1 w1 hg1 hg2 ho1 hb1 hl1 hC1 => ?_)))
 have hm1 : (Add g1 M) g1 := .inl rfl
 have ho2 : OwnA (RArr 4 (RSlice RSpan)) w1 (Add g1 M) g1 69 [([] : List Span), ([] : List Span), ([] : List Span), ([] : List Span)] := OwnA.of ho1 ⟨rfl, ⟨_, _, rfl, (vslice_nil (R := RSpan) (w := w1) (M := (Add g1 M))).cells, _, _, rfl, (vslice_nil (R := RSpan) (w := w1) (M := (Add g1 M))).cells, _, _, rfl, (vslice_nil (R := RSpan) (w := w1) (M := (Add g1 M))).cells, _, _, rfl, (vslice_nil (R := RSpan) (w := w1) (M := (Add g1 M))).cells, rfl⟩⟩
 refine lw_nil (ew_then (cw_seq (cw_region ?_)))
 replace h := bind_some h
 obtain ⟨x1, hx1, h⟩ := h
 refine lw_op rfl rfl rfl (ow_call rfl rfl Tryd.call94 (w_impl_allSides (hG.mono hl1) hC1.old hx1) fun v1 w2 hv1 => ?_)
 obtain ⟨hv1, hb2⟩ := hv1
 have hl2 := Le.no (Add g1 M) hb2
 have hC2 := hC1.no hb2
 have ho3 := ho2.no hb2 hl2
 refine lw_op rfl rfl rfl (ow_alloc rfl (Tryd.zeroValue69 _) hC2 fun g2 w3 hg3 hg4 ho4 hb3 hl3 hC3 => ?_)
 have hn1 := Nat.ne_of_lt (Nat.lt_of_lt_of_le ho3.lt hg3)
 have ho5 := ho3.no hb3 hl3
 have hm2 : (Add g2 (Add g1 M)) g1 := .inr hm1
 have hm3 : (Add g2 (Add g1 M)) g2 := .inl rfl
 have ho6 : OwnA (RArr 4 (RSlice RSpan)) w3 (Add g2 (Add g1 M)) g2 69 [([] : List Span), ([] : List Span), ([] : List Span), ([] : List Span)] := OwnA.of ho4 ⟨rfl, ⟨_, _, rfl, (vslice_nil (R := RSpan) (w := w3) (M := (Add g2 (Add g1 M)))).cells, _, _, rfl, (vslice_nil (R := RSpan) (w := w3) (M := (Add g2 (Add g1 M)))).cells, _, _, rfl, (vslice_nil (R := RSpan) (w := w3) (M := (Add g2 (Add g1 M)))).cells, _, _, rfl, (vslice_nil (R := RSpan) (w := w3) (M := (Add g2 (Add g1 M)))).cells, rfl⟩⟩
 obtain ⟨cs1, h1, h2⟩ := ho6.own
 refine lw_op0 rfl rfl (ow_storeA (X := No) (R := (RArr 4 (RSlice RSpan))) rfl rfl rfl rfl h1 h2 (Tryd.sizeOf69 _) (VRep.mono hl3 hv1) hm3 (.inl hg4) hC3 fun w4 ho7 hb4 hl4 hC4 => ?_)
 have ho8 := ho5.go hb4 (fun e => hn1 e) hl4
 refine lw_nil (ew_then (cw_seq (cw_seq (cw_region (lw_op rfl rfl rfl (ow_move rfl rfl ?_))))))
 refine lw_op rfl rfl rfl (ow_len rfl rfl (VRep.mono (((hl1.trans hl2).trans hl3).trans hl4) h0) Tryd.underlying23 rfl ?_)
 refine lw_op rfl rfl rfl (ow_move rfl rfl ?_)
 refine lw_nil (ew_then ?_)
 replace h := bind_some h
 obtain ⟨lr1, hlr1, h⟩ := h
 refine cw_for hlr1 (fun s a w' => ∃ (M' : Nat → Prop), Fits 31 [(2, (.pointer (some ⟨g1, 0, none⟩))), (3, (.pointer (some ⟨g2, 0, none⟩))), (7, v0p), (8, (.int .i64 (a_list.length : Int))), (9, (.int .i64 s.1))] a ∧ Le w4 (Add g2 (Add g1 M)) w' M' ∧ Cx No w M w' M' ∧ OwnA (RArr 4 (RSlice RSpan)) w' M' g1 69 [([] : List Span), ([] : List Span), ([] : List Span), ([] : List Span)] ∧ M' g1 ∧ OwnA (RArr 4 (RSlice RSpan)) w' M' g2 69 s.2 ∧ M' g2) ?_ ?_ ?_
 ·
  intro a ha
  exact ⟨(Add g2 (Add g1 M)), ha.sub ⟨rfl, rfl, rfl, rfl, rfl, trivial⟩, Le.refl _ _, hC4, ho8, hm2, ho7, hm3⟩
 ·
  rintro ⟨k1, y1⟩ a w5 sr1 ⟨M1, hF1, hl5, hC5, ho9, hm4, ho10, hm5⟩ hb5 hR1
  refine cw_at (E := [(2, (.pointer (some ⟨g1, 0, none⟩))), (3, (.pointer (some ⟨g2, 0, none⟩))), (7, v0p), (8, (.int .i64 (a_list.length : Int))), (9, (.int .i64 k1))]) hF1 ?_
  refine cw_seq (cw_region (lw_op rfl rfl rfl (ow_lss rfl rfl rfl fun bb1 hbb1 => ?_)))
  refine lw_nil (ew_then (cw_seq ?_))
  replace hb5 := cond_some hb5
  rcases hb5 with ⟨hc1, hb5⟩ | ⟨hc1, hb5⟩
  ·
   obtain rfl := hbb1.trans hc1
   refine cw_true rfl ?_
   refine cw_skip (ew_then (cw_seq (cw_block ?_)))
   refine cw_seq (cw_region ?_)
   replace hb5 := bind_some hb5
   obtain ⟨x2, hx2, hb5⟩ := hb5
   refine lw_op rfl rfl rfl (ow_indexSlice (R := RTest) rfl rfl rfl (VRep.mono ((((hl1.trans hl2).trans hl3).trans hl4).trans hl5) h0) Tryd.underlying23 (Tryd.sizeOf31 _) hx2 fun p1 hp1 => ?_)
   refine lw_op rfl rfl rfl (ow_load (R := RTest) rfl rfl hp1 (Tryd.sizeOf31 _) (Tryd.isAgg31 _) fun v4 hv4 => ?_)
   refine lw_allocStore (R := RTest) rfl rfl rfl rfl rfl rfl rfl Tryd.zeroValue31 Tryd.sizeOf31 rfl rfl rfl (by simp) hv4 hC5 fun p2 w6 hp2 hb6 hl6 hC6 => ?_
   have ho11 := ho9.no hb6 hl6
   have ho12 := ho10.no hb6 hl6
   refine lw_nil (ew_then ?_)
   replace hb5 := bind_some hb5
   obtain ⟨x3, hx3, hb5⟩ := hb5
   replace hb5 := bind_some hb5
   obtain ⟨x4, hx4, hb5⟩ := hb5
   replace hb5 := bind_some hb5
   obtain ⟨x5, hx5, hb5⟩ := hb5
   replace hb5 := bind_some hb5
   obtain ⟨x6, hx6, hb5⟩ := hb5
   refine cw_sub (E' := [(2, (.pointer (some ⟨g1, 0, none⟩))), (3, (.pointer (some ⟨g2, 0, none⟩))), (5, (.pointer (some p2))), (7, v0p), (8, (.int .i64 (a_list.length : Int))), (9, (.int .i64 k1))]) ⟨rfl, rfl, rfl, rfl, rfl, rfl, trivial⟩ ?_
   refine cw_drawL 15 14 12 27 13 [PA RInt M1 x2.Field, PEq (.int .i64 x2.Field), PA RInt M1 x2.Field, PEq (.int .i64 x2.Field), PEq (.pointer (some ⟨g2, (x2.Field : Int).toNat * (RSlice RSpan).size, none⟩)), PV (RSlice RSpan) M1 x3, PV RTest M1 x2, PV (RSlice RSpan) M1 x4, PA RInt M1 x2.Field, PEq (.int .i64 x2.Field), PEq (.int .i64 x5), PT2 (PV (RSlice RSpan) M1 x6.1) (PEq (.bool x6.2)), PT2 (PV (RSlice RSpan) M1 x6.1) (PEq (.bool x6.2)), PV (RSlice RSpan) M1 x6.1, PEq (.bool x6.2)] (by kernel_rfl) rfl (by kernel_rfl) rfl rfl rfl rfl rfl rfl rfl ⟨PA.mono _ _ _, PEq.mono _, PA.mono _ _ _, PEq.mono _, PEq.mono _, PV.mono _ _ _, PV.mono _ _ _, PV.mono _ _ _, PA.mono _ _ _, PEq.mono _, PEq.mono _, (PT2.mono (PV.mono _ _ _) (PEq.mono _)), (PT2.mono (PV.mono _ _ _) (PEq.mono _)), PV.mono _ _ _, PEq.mono _, trivial⟩ (fun v w h => by obtain ⟨a, b, rfl, ha, hb⟩ := h; exact ⟨b, hb, fun w' => ow_extract rfl rfl rfl ⟨rfl, rfl⟩⟩) ⟨?_, ?_, ?_, ?_, ?_, ?_, ?_, ?_, ?_, ?_, ?_, ?_, ?_, ?_, ?_, trivial⟩ ?_
   ·
    intro w10 D hS1 hd1
    have hl10 := Le.no M1 hS1
    have hC10 := hC6.no hS1
    have ho19 := ho11.no hS1 hl10
    have ho20 := ho12.no hS1 hl10
    refine dg_sub (E' := [(5, (.pointer (some p2)))]) ⟨rfl, trivial⟩ ?_
    refine dg_plain rfl (ow_fieldAddr rfl rfl Tryd.underlying31 rfl (Tryd.sizeOf3 _) ?_)
    exact ⟨BX.refl _ _, ⟨_, rfl, (ARep.mono hl10 (hp2.fld fld_Test_Field))⟩⟩
   ·
    intro w11 D hS2 hd2
    have hl11 := Le.no M1 hS2
    have hC11 := hC6.no hS2
    have ho21 := ho11.no hS2 hl11
    have ho22 := ho12.no hS2 hl11
    have hd2 : PA RInt M1 x2.Field (D 0) w11 ∧ True := hd2
    obtain ⟨d1, -⟩ := hd2
    obtain ⟨p3, e1, ha1⟩ := d1
    refine dg_sub (E' := [(14, (.pointer (some p3)))]) ⟨(congrArg some e1), trivial⟩ ?_
    refine dg_plain rfl (ow_load (R := RInt) rfl rfl ha1 (Tryd.sizeOf3 _) (Tryd.isAgg3 _) fun v15 hv15 => ?_)
    obtain rfl := vint_eq hv15
    exact ⟨BX.refl _ _, rfl⟩
   ·
    intro w12 D hS3 hd3
    have hl12 := Le.no M1 hS3
    have hC12 := hC6.no hS3
    have ho23 := ho11.no hS3 hl12
    have ho24 := ho12.no hS3 hl12
    refine dg_sub (E' := [(5, (.pointer (some p2)))]) ⟨rfl, trivial⟩ ?_
    refine dg_plain rfl (ow_fieldAddr rfl rfl Tryd.underlying31 rfl (Tryd.sizeOf3 _) ?_)
    exact ⟨BX.refl _ _, ⟨_, rfl, (ARep.mono hl12 (hp2.fld fld_Test_Field))⟩⟩
   ·
    intro w13 D hS4 hd4
    have hl13 := Le.no M1 hS4
    have hC13 := hC6.no hS4
    have ho25 := ho11.no hS4 hl13
    have ho26 := ho12.no hS4 hl13
    have hd4 : PA RInt M1 x2.Field (D 2) w13 ∧ True := hd4
    obtain ⟨d2, -⟩ := hd4
    obtain ⟨p4, e2, ha2⟩ := d2
    refine dg_sub (E' := [(16, (.pointer (some p4)))]) ⟨(congrArg some e2), trivial⟩ ?_
    refine dg_plain rfl (ow_load (R := RInt) rfl rfl ha2 (Tryd.sizeOf3 _) (Tryd.isAgg3 _) fun v16 hv16 => ?_)
    obtain rfl := vint_eq hv16
    exact ⟨BX.refl _ _, rfl⟩
   ·
    intro w14 D hS5 hd5
    have hl14 := Le.no M1 hS5
    have hC14 := hC6.no hS5
    have ho27 := ho11.no hS5 hl14
    have ho28 := ho12.no hS5 hl14
    have hd5 : PEq (.int .i64 x2.Field) (D 3) w14 ∧ True := hd5
    obtain ⟨d3, -⟩ := hd5
    refine dg_sub (E' := [(17, (.int .i64 x2.Field)), (3, (.pointer (some ⟨g2, 0, none⟩)))]) ⟨(congrArg some d3), rfl, trivial⟩ ?_
    refine dg_plain rfl (ow_indexA (R := (RSlice RSpan)) rfl rfl rfl rfl ho28 Tryd.underlying69 (Tryd.sizeOf58 _) hx3 ?_)
    exact ⟨BX.refl _ _, rfl⟩
   ·
    intro w15 D hS6 hd6
    have hl15 := Le.no M1 hS6
    have hC15 := hC6.no hS6
    have ho29 := ho11.no hS6 hl15
    have ho30 := ho12.no hS6 hl15
    have hd6 : PEq (.pointer (some ⟨g2, (x2.Field : Int).toNat * (RSlice RSpan).size, none⟩)) (D 4) w15 ∧ True := hd6
    obtain ⟨d4, -⟩ := hd6
    refine dg_sub (E' := [(18, (.pointer (some ⟨g2, (x2.Field : Int).toNat * (RSlice RSpan).size, none⟩)))]) ⟨(congrArg some d4), trivial⟩ ?_
    refine dg_plain rfl (ow_loadElA (R := (RSlice RSpan)) rfl rfl rfl ho30 hx3 (Tryd.sizeOf58 _) (Tryd.isAgg58 _) fun v17 hv17 => ?_)
    exact ⟨BX.refl _ _, hv17⟩
   ·
    intro w16 D hS7 hd7
    have hl16 := Le.no M1 hS7
    have hC16 := hC6.no hS7
    have ho31 := ho11.no hS7 hl16
    have ho32 := ho12.no hS7 hl16
    refine dg_sub (E' := [(5, (.pointer (some p2)))]) ⟨rfl, trivial⟩ ?_
    refine dg_plain rfl (ow_load (R := RTest) rfl rfl (ARep.mono hl16 hp2) (Tryd.sizeOf31 _) (Tryd.isAgg31 _) fun v18 hv18 => ?_)
    exact ⟨BX.refl _ _, hv18⟩
   ·
    intro w17 D hS8 hd8
    have hl17 := Le.no M1 hS8
    have hC17 := hC6.no hS8
    have ho33 := ho11.no hS8 hl17
    have ho34 := ho12.no hS8 hl17
    have hd8 : PV RTest M1 x2 (D 6) w17 ∧ True := hd8
    obtain ⟨d5, -⟩ := hd8
    obtain ⟨v19, hq1⟩ : ∃ v, (D 6) = v := ⟨_, rfl⟩
    rw [hq1] at d5
    refine dg_sub (E' := [(20, v19)]) ⟨(congrArg some hq1), trivial⟩ ?_
    refine dg_plain rfl (ow_call rfl rfl Tryd.call96 (w_impl_Test_spans (hG.mono ((((((hl1.trans hl2).trans hl3).trans hl4).trans hl5).trans hl6).trans hl17)) hC17.old d5 hx4) fun v20 w18 hv20 => ?_)
    obtain ⟨hv20, hb10⟩ := hv20
    have hl18 := Le.no M1 hb10
    have hC18 := hC17.no hb10
    have ho35 := ho33.no hb10 hl18
    have ho36 := ho34.no hb10 hl18
    exact ⟨hb10, hv20⟩
   ·
    intro w19 D hS9 hd9
    have hl19 := Le.no M1 hS9
    have hC19 := hC6.no hS9
    have ho37 := ho11.no hS9 hl19
    have ho38 := ho12.no hS9 hl19
    refine dg_sub (E' := [(5, (.pointer (some p2)))]) ⟨rfl, trivial⟩ ?_
    refine dg_plain rfl (ow_fieldAddr rfl rfl Tryd.underlying31 rfl (Tryd.sizeOf3 _) ?_)
    exact ⟨BX.refl _ _, ⟨_, rfl, (ARep.mono hl19 (hp2.fld fld_Test_Field))⟩⟩
   ·
    intro w20 D hS10 hd10
    have hl20 := Le.no M1 hS10
    have hC20 := hC6.no hS10
    have ho39 := ho11.no hS10 hl20
    have ho40 := ho12.no hS10 hl20
    have hd10 : PA RInt M1 x2.Field (D 8) w20 ∧ True := hd10
    obtain ⟨d6, -⟩ := hd10
    obtain ⟨p5, e3, ha3⟩ := d6
    refine dg_sub (E' := [(22, (.pointer (some p5)))]) ⟨(congrArg some e3), trivial⟩ ?_
    refine dg_plain rfl (ow_load (R := RInt) rfl rfl ha3 (Tryd.sizeOf3 _) (Tryd.isAgg3 _) fun v21 hv21 => ?_)
    obtain rfl := vint_eq hv21
    exact ⟨BX.refl _ _, rfl⟩
   ·
    intro w21 D hS11 hd11
    have hl21 := Le.no M1 hS11
    have hC21 := hC6.no hS11
    have ho41 := ho11.no hS11 hl21
    have ho42 := ho12.no hS11 hl21
    have hd11 : PEq (.int .i64 x2.Field) (D 9) w21 ∧ PV (RSlice RSpan) M1 x4 (D 7) w21 ∧ True := hd11
    obtain ⟨d7, d8, -⟩ := hd11
    refine dg_sub (E' := [(23, (.int .i64 x2.Field))]) ⟨(congrArg some d7), trivial⟩ ?_
    refine dg_plain rfl (ow_call rfl rfl Tryd.call69 (w_impl_FieldTop (hG.mono ((((((hl1.trans hl2).trans hl3).trans hl4).trans hl5).trans hl6).trans hl21)) hC21.old hx5) fun v22 w22 hv22 => ?_)
    obtain ⟨hv22, hb11⟩ := hv22
    have hl22 := Le.no M1 hb11
    have hC22 := hC21.no hb11
    have ho43 := ho41.no hb11 hl22
    have ho44 := ho42.no hb11 hl22
    obtain rfl := vint_eq hv22
    exact ⟨hb11, rfl⟩
   ·
    intro w23 D hS12 hd12
    have hl23 := Le.no M1 hS12
    have hC23 := hC6.no hS12
    have ho45 := ho11.no hS12 hl23
    have ho46 := ho12.no hS12 hl23
    have hd12 : PV (RSlice RSpan) M1 x3 (D 5) w23 ∧ PV (RSlice RSpan) M1 x4 (D 7) w23 ∧ PEq (.int .i64 x5) (D 10) w23 ∧ PEq (.int .i64 x5) (D 10) w23 ∧ True := hd12
    obtain ⟨d9, d10, d11, d12, -⟩ := hd12
    obtain ⟨v23, hq2⟩ : ∃ v, (D 5) = v := ⟨_, rfl⟩
    rw [hq2] at d9
    obtain ⟨v24, hq3⟩ : ∃ v, (D 7) = v := ⟨_, rfl⟩
    rw [hq3] at d10
    refine dg_sub (E' := [(19, v23), (21, v24), (24, (.int .i64 x5))]) ⟨(congrArg some hq2), (congrArg some hq3), (congrArg some d11), trivial⟩ ?_
    refine dg_plain rfl (ow_call rfl rfl Tryd.call95 (w_impl_meetSpans (hG.mono ((((((hl1.trans hl2).trans hl3).trans hl4).trans hl5).trans hl6).trans hl23)) hC23.old d9 d10 hx6) fun v25 w24 hv25 => ?_)
    obtain ⟨⟨v26, v27, rfl, hv26, hv27⟩, hb12⟩ := hv25
    have hl24 := Le.no M1 hb12
    have hC24 := hC23.no hb12
    have ho47 := ho45.no hb12 hl24
    have ho48 := ho46.no hb12 hl24
    obtain ⟨bb3, hbb3, rfl⟩ := vbool_ex hv27
    exact ⟨hb12, ⟨_, _, rfl, hv26, (congrArg Value.bool hbb3)⟩⟩
   ·
    intro w25 D hS13 hd13
    have hl25 := Le.no M1 hS13
    have hC25 := hC6.no hS13
    have ho49 := ho11.no hS13 hl25
    have ho50 := ho12.no hS13 hl25
    have hd13 : PT2 (PV (RSlice RSpan) M1 x6.1) (PEq (.bool x6.2)) (D 11) w25 ∧ True := hd13
    obtain ⟨d13, -⟩ := hd13
    obtain ⟨v28, v29, e4, hd14, hd15⟩ := d13
    obtain ⟨bb4, hq4, rfl⟩ : ∃ b, b = x6.2 ∧ v29 = .bool b := ⟨_, rfl, hd15⟩
    refine dg_sub (E' := [(25, (.tuple #[v28, (.bool bb4)]))]) ⟨(congrArg some e4), trivial⟩ ?_
    refine dg_plain rfl (ow_move rfl rfl ?_)
    exact ⟨BX.refl _ _, ⟨_, _, rfl, hd14, (congrArg Value.bool hq4)⟩⟩
   ·
    intro w26 D hS14 hd16
    have hl26 := Le.no M1 hS14
    have hC26 := hC6.no hS14
    have ho51 := ho11.no hS14 hl26
    have ho52 := ho12.no hS14 hl26
    have hd16 : PT2 (PV (RSlice RSpan) M1 x6.1) (PEq (.bool x6.2)) (D 12) w26 ∧ True := hd16
    obtain ⟨d14, -⟩ := hd16
    obtain ⟨v30, v31, e5, hd17, hd18⟩ := d14
    obtain ⟨bb5, hq5, rfl⟩ : ∃ b, b = x6.2 ∧ v31 = .bool b := ⟨_, rfl, hd18⟩
    refine dg_sub (E' := [(13, (.tuple #[v30, (.bool bb5)]))]) ⟨(congrArg some e5), trivial⟩ ?_
    refine dg_plain rfl (ow_extract rfl rfl rfl ?_)
    exact ⟨BX.refl _ _, hd17⟩
   ·
    intro w27 D hS15 hd19
    have hl27 := Le.no M1 hS15
    have hC27 := hC6.no hS15
    have ho53 := ho11.no hS15 hl27
    have ho54 := ho12.no hS15 hl27
    have hd19 : PT2 (PV (RSlice RSpan) M1 x6.1) (PEq (.bool x6.2)) (D 12) w27 ∧ True := hd19
    obtain ⟨d15, -⟩ := hd19
    obtain ⟨v32, v33, e6, hd20, hd21⟩ := d15
    obtain ⟨bb6, hq6, rfl⟩ : ∃ b, b = x6.2 ∧ v33 = .bool b := ⟨_, rfl, hd21⟩
    refine dg_sub (E' := [(13, (.tuple #[v32, (.bool bb6)]))]) ⟨(congrArg some e6), trivial⟩ ?_
    refine dg_plain rfl (ow_extract rfl rfl rfl ?_)
    exact ⟨BX.refl _ _, (congrArg Value.bool hq6)⟩
   ·
    intro w28 D hS16 hd22
    have hd22 : PA RInt M1 x2.Field (D 0) w28 ∧ PEq (.int .i64 x2.Field) (D 1) w28 ∧ PA RInt M1 x2.Field (D 2) w28 ∧ PEq (.int .i64 x2.Field) (D 3) w28 ∧ PEq (.pointer (some ⟨g2, (x2.Field : Int).toNat * (RSlice RSpan).size, none⟩)) (D 4) w28 ∧ PV (RSlice RSpan) M1 x3 (D 5) w28 ∧ PV RTest M1 x2 (D 6) w28 ∧ PV (RSlice RSpan) M1 x4 (D 7) w28 ∧ PA RInt M1 x2.Field (D 8) w28 ∧ PEq (.int .i64 x2.Field) (D 9) w28 ∧ PEq (.int .i64 x5) (D 10) w28 ∧ PT2 (PV (RSlice RSpan) M1 x6.1) (PEq (.bool x6.2)) (D 11) w28 ∧ PT2 (PV (RSlice RSpan) M1 x6.1) (PEq (.bool x6.2)) (D 12) w28 ∧ PV (RSlice RSpan) M1 x6.1 (D 13) w28 ∧ PEq (.bool x6.2) (D 14) w28 ∧ True := hd22
    obtain ⟨-, d17, -, -, -, -, -, -, -, -, -, -, -, d29, -, -⟩ := hd22
    have hl28 := Le.no M1 hS16
    have hC28 := hC6.no hS16
    have ho55 := ho11.no hS16 hl28
    have ho56 := ho12.no hS16 hl28
    obtain ⟨v34, hq7⟩ : ∃ v, (D 13) = v := ⟨_, rfl⟩
    rw [hq7] at d29
    refine ls_sub (E' := [(15, (.int .i64 x2.Field)), (26, v34), (2, (.pointer (some ⟨g1, 0, none⟩))), (3, (.pointer (some ⟨g2, 0, none⟩))), (5, (.pointer (some p2))), (7, v0p), (8, (.int .i64 (a_list.length : Int))), (9, (.int .i64 k1))]) ⟨(congrArg some d17), (congrArg some hq7), rfl, rfl, rfl, rfl, rfl, rfl, trivial⟩ ?_
    refine ls_op (by kernel_rfl) rfl rfl rfl rfl rfl (ow_indexA (R := (RSlice RSpan)) rfl rfl rfl rfl ho56 Tryd.underlying69 (Tryd.sizeOf58 _) hx3 ?_)
    refine ls_op0 (by kernel_rfl) rfl rfl (ow_storeElA (X := No) (R := (RSlice RSpan)) rfl rfl rfl rfl ho56 hx3 (Tryd.sizeOf58 _) d29 hm5 (.inl hg4) hC28 fun w29 ho57 hb13 hl29 hC29 => ?_)
    have ho58 := ho55.go hb13 (fun e => hn1 e) hl29
    refine ls_nil ?_
    refine ew_blockN ?_
    refine ew_then (cw_region (lw_op rfl rfl rfl (ow_add rfl rfl rfl ?_)))
    refine lw_op rfl rfl rfl (ow_move rfl rfl ?_)
    refine lw_nil (ew_nxt ((W (k1 + 1)), (List.set y1 (x2.Field : Int).toNat x6.1)) hb5 fun a ha => ⟨M1, ?_, (((hl5.trans hl6).trans hl28).trans hl29), hC29, ho58, hm4, ho57, hm5⟩)
    exact ha.sub ⟨rfl, rfl, rfl, rfl, rfl, trivial⟩
  ·
   obtain rfl := hbb1.trans hc1
   refine cw_false rfl ?_
   refine cw_exit ?_
   refine ew_thenX ?_
   refine ew_thenX ?_
   refine ew_blockX ?_
   refine ew_brk (k1, y1) hb5 fun a ha => ⟨M1, ?_, hl5, hC5, ho9, hm4, ho10, hm5⟩
   exact ha.sub ⟨rfl, rfl, rfl, rfl, rfl, trivial⟩
 ·
  rintro ⟨k2, y2⟩ a w30 hlr2 ⟨M2, hF2, hl30, hC30, ho59, hm6, ho60, hm7⟩
  subst hlr2
  refine ew_at (E := [(2, (.pointer (some ⟨g1, 0, none⟩))), (3, (.pointer (some ⟨g2, 0, none⟩))), (7, v0p), (8, (.int .i64 (a_list.length : Int))), (9, (.int .i64 k2))]) hF2 ?_
  refine ew_then (cw_seq (cw_region (lw_op rfl rfl rfl (ow_loadA (R := (RArr 4 (RSlice RSpan))) rfl rfl rfl ho60 (Tryd.sizeOf69 _) (Tryd.isAgg69 _) fun v37 hv37 => ?_))))
  obtain ⟨cs2, h3, h4⟩ := ho59.own
  refine lw_op0 rfl rfl (ow_storeA (X := No) (R := (RArr 4 (RSlice RSpan))) rfl rfl rfl rfl h3 h4 (Tryd.sizeOf69 _) hv37 hm6 (.inl hg2) hC30 fun w31 ho61 hb14 hl31 hC31 => ?_)
  have ho62 := ho60.go hb14 (fun e => hn1 e.symm) hl31
  refine lw_nil (ew_then (cw_ret ?_))
  obtain rfl := Option.some.inj h
  obtain ⟨v38, hq8, hw1⟩ := resA ho61 (Tryd.sizeOf69 _) (Tryd.isAgg69 _) rfl
  exact ew_ret (res1 rfl (.cell rfl hq8)) ⟨_, rfl, (hw1.mono hC31.back), hC31.bx⟩

theorem w_impl_sides_box {w : World} {M : Nat → Prop} (_hG : ARep (RArr 4 RShape) w M shapes ⟨0, 0, none⟩) (hO : ∀ b, M b → b < w.heap.size) {v0p : Value} {a_s : List (List Span)} (h0 : VRep (RArr 4 (RSlice RSpan)) w M a_s v0p) {r : Box} (h : F.impl_sides_box a_s = some r) :
  Calls Tryd.prog 57 [v0p].toArray w fun e w' => ∃ v, e = .returned v ∧ VRep RBox w' M r v ∧ BX No w w' := by
 obtain ⟨i58, hi58, hz58, hs58, hy58⟩ := info58
 obtain ⟨i76, hi76, hz76, hs76, hy76⟩ := info76
 have hC : Cx No w M w M := Cx.start hO (fun _ e => e.elim)
 clear _hG
 refine walk (N := 21) Tryd.func57 rfl Tryd.ntmps57 rfl ?_
 refine cw_seq (cw_region (lw_op rfl rfl rfl (ow_box (R := (RArr 4 (RSlice RSpan))) rfl rfl h0 hC fun p1 w1 hp1 hb1 hl1 hC1 => ?_)))
 refine lw_op rfl rfl rfl (ow_alloc rfl (Tryd.zeroValue27 _) hC1 fun g1 w2 hg1 hg2 ho1 hb2 hl2 hC2 => ?_)
 have hm1 : (Add g1 M) g1 := .inl rfl
 refine lw_nil (ew_then (cw_seq (cw_region ?_)))
 replace h := bind_some h
 obtain ⟨mk1, hmk1, h⟩ := h
 refine lw_op rfl rfl rfl (ow_make (R := (RSlice RSpan)) rfl rfl rfl Tryd.underlying25 hi58 hz58 hs58 hy58 rfl rfl vslice_nil hmk1 hC2 fun v1 w3 M1 hr1 hb3 hl3 hC3 hM1 hat1 => ?_)
 have ho2 := ho1.no hb3
 have hm2 := hM1 _ hm1
 obtain ⟨A1, c1, rfl⟩ := hr1.len
 refine lw_op rfl rfl rfl (ow_build (v := .agg #[(.slice A1 mk1.length c1)]) rfl rfl (by kernel_rfl) ?_)
 refine lw_op rfl rfl rfl (ow_alloc rfl (Tryd.zeroValue27 _) hC3 fun g2 w4 hg3 hg4 ho3 hb4 hl4 hC4 => ?_)
 have hn1 := Nat.ne_of_lt (Nat.lt_of_lt_of_le ho2.lt hg3)
 have ho4 := ho2.no hb4
 have hm3 : (Add g2 M1) g1 := .inr hm2
 have hr2 := hr1.add hb4 hg3
 have hm4 : (Add g2 M1) g2 := .inl rfl
 refine lw_op0 rfl rfl (ow_store (X := No) (us := [(.slice A1 mk1.length c1)]) (cs' := #[(.slice A1 mk1.length c1)]) rfl rfl rfl rfl ho3 (Tryd.sizeOf27 _) rfl rfl rfl rfl hm4 (.inl hg4) rfl hC4 fun w5 ho5 hb5 hl5 hC5 => ?_)
 have ho6 := ho4.go hb5 (fun e => hn1 e)
 have hr3 := hr2.go hb5 (fun k hk e => (orow_ne hr2 ho3 (by decide)) (hk.trans (congrArg some e))) hl5 (fun _ h => h)
 refine lw_nil (ew_then (cw_seq (cw_seq (cw_region (lw_op rfl rfl rfl (ow_load (R := (RArr 4 (RSlice RSpan))) rfl rfl (ARep.mono (((hl2.trans hl3).trans hl4).trans hl5) hp1) (Tryd.sizeOf69 _) (Tryd.isAgg69 _) fun v2 hv2 => ?_))))))
 refine lw_op rfl rfl rfl (ow_move rfl rfl ?_)
 refine lw_nil (ew_then ?_)
 replace h := bind_some h
 obtain ⟨lr1, hlr1, h⟩ := h
 refine cw_for hlr1 (fun s a w' => ∃ (M' : Nat → Prop), Fits 21 [(2, (.pointer (some ⟨g1, 0, none⟩))), (3, (.pointer (some ⟨g2, 0, none⟩))), (8, v2), (9, (.int .i64 s.1))] a ∧ Le w5 (Add g2 M1) w' M' ∧ Cx No w M w' M' ∧ OwnRow (RSlice RSpan) w.heap.size 58 w' M' s.2 (.slice A1 mk1.length c1) ∧ Own w' g1 27 #[(.slice none 0 0)] ∧ M' g1 ∧ Own w' g2 27 #[(.slice A1 mk1.length c1)] ∧ M' g2) ?_ ?_ ?_
 ·
  intro a ha
  exact ⟨(Add g2 M1), ha.sub ⟨rfl, rfl, rfl, rfl, trivial⟩, Le.refl _ _, hC5, hr3, ho6, hm3, ho5, hm4⟩
 ·
  rintro ⟨k1, y1⟩ a w6 sr1 ⟨M2, hF1, hl6, hC6, hw1, ho7, hm5, ho8, hm6⟩ hb6 hR1
  refine cw_at (E := [(2, (.pointer (some ⟨g1, 0, none⟩))), (3, (.pointer (some ⟨g2, 0, none⟩))), (8, v2), (9, (.int .i64 k1))]) hF1 ?_
  refine cw_seq (cw_region (lw_op rfl rfl rfl (ow_lss rfl rfl rfl fun bb1 hbb1 => ?_)))
  refine lw_nil (ew_then (cw_seq ?_))
  replace hb6 := cond_some hb6
  rcases hb6 with ⟨hc1, hb6⟩ | ⟨hc1, hb6⟩
  ·
   obtain rfl := hbb1.trans hc1
   refine cw_true rfl ?_
   refine cw_skip (ew_then (cw_seq (cw_block ?_)))
   refine cw_seq (cw_region (lw_op rfl rfl rfl (ow_move rfl rfl ?_)))
   replace hb6 := bind_some hb6
   obtain ⟨x1, hx1, hb6⟩ := hb6
   refine lw_op rfl rfl rfl (ow_index (R := (RSlice RSpan)) rfl rfl rfl (VRep.mono hl6 hv2) Tryd.underlying69 (Tryd.sizeOf58 _) (Tryd.isAgg58 _) hx1 fun v5 hv5 => ?_)
   refine lw_op rfl rfl rfl (ow_assign rfl rfl ?_)
   refine lw_op rfl rfl rfl (ow_assign rfl rfl ?_)
   refine lw_nil (ew_then ?_)
   replace hb6 := bind_some hb6
   obtain ⟨z1, hz1, hb6⟩ := hb6
   refine cw_sub (E' := [(2, (.pointer (some ⟨g1, 0, none⟩))), (3, (.pointer (some ⟨g2, 0, none⟩))), (4, (.int .i64 k1)), (5, v5), (8, v2), (9, (.int .i64 k1))]) ⟨rfl, rfl, rfl, rfl, rfl, rfl, trivial⟩ ?_
   refine cw_drawQ 5 [PEq (.pointer (some ⟨g2, 0, none⟩)), PEq (.slice A1 mk1.length c1), PEq (.int .i64 k1), PV (RSlice RSpan) M2 x1, PV (RSlice RSpan) M2 z1] (by kernel_rfl) rfl (by kernel_rfl) ⟨PEq.mono _, PEq.mono _, PEq.mono _, PV.mono _ _ _, PV.mono _ _ _, trivial⟩ ⟨?_, ?_, ?_, ?_, ?_, trivial⟩ ?_
   ·
    intro w8 D hS1 hd1
    have hl8 := Le.no M2 hS1
    have hC8 := hC6.no hS1
    have ho11 := ho7.no hS1
    have ho12 := ho8.no hS1
    have hr5 := hw1.no hS1
    refine dg_sub (E' := [(3, (.pointer (some ⟨g2, 0, none⟩)))]) ⟨rfl, trivial⟩ ?_
    refine dg_plain rfl (ow_fieldAddr rfl rfl Tryd.underlying27 rfl (Tryd.sizeOf25 _) ?_)
    exact ⟨BX.refl _ _, rfl⟩
   ·
    intro w9 D hS2 hd2
    have hl9 := Le.no M2 hS2
    have hC9 := hC6.no hS2
    have ho13 := ho7.no hS2
    have ho14 := ho8.no hS2
    have hr6 := hw1.no hS2
    have hd2 : PEq (.pointer (some ⟨g2, 0, none⟩)) (D 0) w9 ∧ True := hd2
    obtain ⟨d1, -⟩ := hd2
    refine dg_sub (E' := [(13, (.pointer (some ⟨g2, 0, none⟩)))]) ⟨(congrArg some d1), trivial⟩ ?_
    refine dg_plain rfl (ow_loadOwn1 rfl rfl rfl ho14 (Tryd.isAgg25 _) rfl ?_)
    exact ⟨BX.refl _ _, rfl⟩
   ·
    intro w10 D hS3 hd3
    have hl10 := Le.no M2 hS3
    have hC10 := hC6.no hS3
    have ho15 := ho7.no hS3
    have ho16 := ho8.no hS3
    have hr7 := hw1.no hS3
    refine dg_sub (E' := [(4, (.int .i64 k1))]) ⟨rfl, trivial⟩ ?_
    refine dg_plain rfl (ow_move rfl rfl ?_)
    exact ⟨BX.refl _ _, rfl⟩
   ·
    intro w11 D hS4 hd4
    have hl11 := Le.no M2 hS4
    have hC11 := hC6.no hS4
    have ho17 := ho7.no hS4
    have ho18 := ho8.no hS4
    have hr8 := hw1.no hS4
    refine dg_sub (E' := [(5, v5)]) ⟨rfl, trivial⟩ ?_
    refine dg_plain rfl (ow_move rfl rfl ?_)
    exact ⟨BX.refl _ _, (VRep.mono hl11 hv5)⟩
   ·
    intro w12 D hS5 hd5
    have hl12 := Le.no M2 hS5
    have hC12 := hC6.no hS5
    have ho19 := ho7.no hS5
    have ho20 := ho8.no hS5
    have hr9 := hw1.no hS5
    have hd5 : PV (RSlice RSpan) M2 x1 (D 3) w12 ∧ True := hd5
    obtain ⟨d2, -⟩ := hd5
    obtain ⟨v7, hq1⟩ : ∃ v, (D 3) = v := ⟨_, rfl⟩
    rw [hq1] at d2
    refine dg_sub (E' := [(16, v7)]) ⟨(congrArg some hq1), trivial⟩ ?_
    refine dg_plain rfl (ow_appendCopy (R := RSpan) rfl rfl rfl rfl Tryd.underlying58 hi76 hz76 hs76 hy76 rfl rfl rfl rfl d2 hz1 hC12 fun v8 w13 hw3 hb8 hl13 hC13 => ?_)
    have ho21 := ho19.no hb8
    have ho22 := ho20.no hb8
    have hr10 := hr9.no hb8
    exact ⟨hb8, hw3⟩
   ·
    intro w14 D hS6 hd6
    have hd6 : PEq (.pointer (some ⟨g2, 0, none⟩)) (D 0) w14 ∧ PEq (.slice A1 mk1.length c1) (D 1) w14 ∧ PEq (.int .i64 k1) (D 2) w14 ∧ PV (RSlice RSpan) M2 x1 (D 3) w14 ∧ PV (RSlice RSpan) M2 z1 (D 4) w14 ∧ True := hd6
    obtain ⟨-, d4, d5, -, d7, -⟩ := hd6
    have hl14 := Le.no M2 hS6
    have hC14 := hC6.no hS6
    have ho23 := ho7.no hS6
    have ho24 := ho8.no hS6
    have hr11 := hw1.no hS6
    obtain ⟨v9, hq2⟩ : ∃ v, (D 4) = v := ⟨_, rfl⟩
    rw [hq2] at d7
    refine lw_sub (E' := [(14, (.slice A1 mk1.length c1)), (15, (.int .i64 k1)), (17, v9), (2, (.pointer (some ⟨g1, 0, none⟩))), (3, (.pointer (some ⟨g2, 0, none⟩))), (4, (.int .i64 k1)), (5, v5), (8, v2), (9, (.int .i64 k1))]) ⟨(congrArg some d4), (congrArg some d5), (congrArg some hq2), rfl, rfl, rfl, rfl, rfl, rfl, trivial⟩ ?_
    replace hb6 := bind_some hb6
    obtain ⟨x2, hx2, hb6⟩ := hb6
    refine lw_op rfl rfl rfl (ow_indexRow (R := (RSlice RSpan)) rfl rfl rfl hr11 Tryd.underlying25 (Tryd.sizeOf58 _) hx2 ?_)
    refine lw_op0 rfl rfl (ow_storeElRow (X := No) (R := (RSlice RSpan)) (S := (RSlice RSpan)) rfl rfl rfl rfl hr11 (orow_blk hr11 hx2) hx2 (FldSet.whole (RSlice RSpan)) (Tryd.sizeOf58 _) d7 (Nat.le_refl _) hC14 fun w15 ho25 hb9 hl15 hC15 => ?_)
    have ho26 := ho23.go hb9 (fun e => (orow_ne hr11 ho23 (by decide)) (by rw [orow_blk hr11 hx2]; exact congrArg some e.symm))
    have ho27 := ho24.go hb9 (fun e => (orow_ne hr11 ho24 (by decide)) (by rw [orow_blk hr11 hx2]; exact congrArg some e.symm))
    refine lw_nil (ew_blockN ?_)
    refine ew_then (cw_region (lw_op rfl rfl rfl (ow_add rfl rfl rfl ?_)))
    refine lw_op rfl rfl rfl (ow_move rfl rfl ?_)
    refine lw_nil (ew_nxt ((W (k1 + 1)), (List.set y1 (k1 : Int).toNat z1)) hb6 fun a ha => ⟨M2, ?_, ((hl6.trans hl14).trans hl15), hC15, ho25, ho26, hm5, ho27, hm6⟩)
    exact ha.sub ⟨rfl, rfl, rfl, rfl, trivial⟩
  ·
   obtain rfl := hbb1.trans hc1
   refine cw_false rfl ?_
   refine cw_exit ?_
   refine ew_thenX ?_
   refine ew_thenX ?_
   refine ew_blockX ?_
   refine ew_brk (k1, y1) hb6 fun a ha => ⟨M2, ?_, hl6, hC6, hw1, ho7, hm5, ho8, hm6⟩
   exact ha.sub ⟨rfl, rfl, rfl, rfl, trivial⟩
 ·
  rintro ⟨k2, y2⟩ a w16 hlr2 ⟨M3, hF2, hl16, hC16, hw4, ho28, hm7, ho29, hm8⟩
  subst hlr2
  refine ew_at (E := [(2, (.pointer (some ⟨g1, 0, none⟩))), (3, (.pointer (some ⟨g2, 0, none⟩))), (8, v2), (9, (.int .i64 k2))]) hF2 ?_
  refine ew_then (cw_seq (cw_region (lw_op rfl rfl rfl (ow_loadOwnA rfl rfl rfl ho29 (Tryd.isAgg27 _) (Tryd.sizeOf27 _) rfl ?_))))
  have hw5 := hw4.freezeDel
  have hC17 := hw4.cxDel hC16 (fun _ e => e.elim) hO
  have hl17 := Le.del w16 M3 (.slice A1 mk1.length c1)
  have hm9 : (Del (.slice A1 mk1.length c1) M3) g1 := ⟨hm7, fun e => (orow_ne hw4 ho28 (by decide)) e⟩
  have hm10 : (Del (.slice A1 mk1.length c1) M3) g2 := ⟨hm8, fun e => (orow_ne hw4 ho29 (by decide)) e⟩
  have hw6 : VRep RBox w16 (Del (.slice A1 mk1.length c1) M3) ({ Sides := y2 } : Box) (.agg #[(.slice A1 mk1.length c1)]) := shut_Box hw5
  refine lw_op0 rfl rfl (ow_store (X := No) (us := [(.slice A1 mk1.length c1)]) (cs' := #[(.slice A1 mk1.length c1)]) rfl rfl rfl rfl ho28 (Tryd.sizeOf27 _) rfl rfl rfl rfl hm9 (.inl hg2) rfl hC17 fun w17 ho30 hb10 hl18 hC18 => ?_)
  have ho31 := ho29.go hb10 (fun e => hn1 e.symm)
  refine lw_nil (ew_then (cw_ret ?_))
  have hw7 : VRep RBox w17 (Del (.slice A1 mk1.length c1) M3) ({ Sides := y2 } : Box) (.agg #[(.slice A1 mk1.length c1)]) := shut_Box (VRep.mono hl18 hw5)
  obtain rfl := Option.some.inj h
  exact ew_ret (res1 rfl (.cell rfl (own_loadVarA ho30 (Tryd.isAgg27 _) (Tryd.sizeOf27 _) rfl))) ⟨_, rfl, (hw7.mono hC18.back), hC18.bx⟩

theorem w_impl_TestsBox {w : World} {M : Nat → Prop} (hG : ARep (RArr 4 RShape) w M shapes ⟨0, 0, none⟩) (hO : ∀ b, M b → b < w.heap.size) {v0p : Value} {a_list : List Test} (h0 : VRep (RSlice RTest) w M a_list v0p) {r : Box} (h : F.impl_TestsBox a_list = some r) :
  Calls Tryd.prog 16 [v0p].toArray w fun e w' => ∃ v, e = .returned v ∧ VRep RBox w' M r v ∧ BX No w w' := by
 have hC : Cx No w M w M := Cx.start hO (fun _ e => e.elim)
 refine walk (N := 10) Tryd.func16 rfl Tryd.ntmps16 rfl ?_
 refine cw_seq (cw_region (lw_op rfl rfl rfl (ow_alloc rfl (Tryd.zeroValue27 _) hC fun g1 w1 hg1 hg2 ho1 hb1 hl1 hC1 => ?_)))
 have hm1 : (Add g1 M) g1 := .inl rfl
 refine lw_nil (ew_then (cw_seq (cw_seq (cw_region (lw_op rfl rfl rfl (ow_move rfl rfl ?_))))))
 replace h := bind_some h
 obtain ⟨x1, hx1, h⟩ := h
 refine lw_op rfl rfl rfl (ow_call rfl rfl Tryd.call55 (w_impl_TestsValid (hG.mono hl1) hC1.old (VRep.mono hl1 h0) hx1) fun v1 w2 hv1 => ?_)
 obtain ⟨hv1, hb2⟩ := hv1
 have hl2 := Le.no (Add g1 M) hb2
 have hC2 := hC1.no hb2
 have ho2 := ho1.no hb2
 obtain rfl := vbool_eq hv1
 refine lw_op rfl rfl rfl (ow_not rfl rfl ?_)
 refine lw_nil (ew_then ?_)
 replace h := cond_some h
 rcases h with ⟨hc1, h⟩ | ⟨hc1, h⟩
 ·
  subst hc1
  refine cw_false rfl ?_
  refine cw_skip (ew_then (cw_seq (cw_region (lw_op rfl rfl rfl (ow_move rfl rfl ?_)))))
  replace h := bind_some h
  obtain ⟨x2, hx2, h⟩ := h
  refine lw_op rfl rfl rfl (ow_call rfl rfl Tryd.call56 (w_impl_testsSides (hG.mono (hl1.trans hl2)) hC2.old (VRep.mono (hl1.trans hl2) h0) hx2) fun v2 w3 hv2 => ?_)
  obtain ⟨hv2, hb3⟩ := hv2
  have hl3 := Le.no (Add g1 M) hb3
  have hC3 := hC2.no hb3
  have ho3 := ho2.no hb3
  replace h := bind_some h
  obtain ⟨x3, hx3, h⟩ := h
  refine lw_op rfl rfl rfl (ow_call rfl rfl Tryd.call57 (w_impl_sides_box (hG.mono ((hl1.trans hl2).trans hl3)) hC3.old hv2 hx3) fun v3 w4 hv3 => ?_)
  obtain ⟨hv3, hb4⟩ := hv3
  have hl4 := Le.no (Add g1 M) hb4
  have hC4 := hC3.no hb4
  have ho4 := ho3.no hb4
  obtain ⟨A1, c1, rfl, hw1⟩ := open_Box hv3
  refine lw_op0 rfl rfl (ow_store (X := No) (us := [(.slice A1 x3.Sides.length c1)]) (cs' := #[(.slice A1 x3.Sides.length c1)]) rfl rfl rfl rfl ho4 (Tryd.sizeOf27 _) rfl rfl rfl rfl hm1 (.inl hg2) rfl hC4 fun w5 ho5 hb5 hl5 hC5 => ?_)
  refine lw_nil (ew_then (cw_ret ?_))
  have hw2 : VRep RBox w5 (Add g1 M) ({ Sides := x3.Sides } : Box) (.agg #[(.slice A1 x3.Sides.length c1)]) := shut_Box (VRep.mono hl5 hw1)
  obtain rfl := Option.some.inj h
  exact ew_ret (res1 rfl (.cell rfl (own_loadVarA ho5 (Tryd.isAgg27 _) (Tryd.sizeOf27 _) rfl))) ⟨_, rfl, (hw2.mono hC5.back), hC5.bx⟩
 ·
  subst hc1
  refine cw_true rfl ?_
  refine cw_seq (cw_region (lw_op rfl rfl rfl (ow_build (v := .agg #[(.slice none 0 0)]) rfl rfl (by kernel_rfl) ?_)))
  have hw3 : VRep RBox w2 (Add g1 M) ({ Sides := ([] : List (List Span)) } : Box) (.agg #[(.slice none 0 0)]) := shut_Box (vslice_nil (R := (RSlice RSpan)) (w := w2) (M := (Add g1 M)))
  refine lw_op0 rfl rfl (ow_store (X := No) (us := [(.slice none 0 0)]) (cs' := #[(.slice none 0 0)]) rfl rfl rfl rfl ho2 (Tryd.sizeOf27 _) rfl rfl rfl rfl hm1 (.inl hg2) rfl hC2 fun w6 ho6 hb6 hl6 hC6 => ?_)
  refine lw_nil (ew_then (cw_ret (ew_thenR ?_)))
  have hw4 : VRep RBox w6 (Add g1 M) ({ Sides := ([] : List (List Span)) } : Box) (.agg #[(.slice none 0 0)]) := shut_Box (VRep.mono hl6 (vslice_nil (R := (RSlice RSpan)) (w := w2) (M := (Add g1 M))))
  obtain rfl := Option.some.inj h
  exact ew_ret (res1 rfl (.cell rfl (own_loadVarA ho6 (Tryd.isAgg27 _) (Tryd.sizeOf27 _) rfl))) ⟨_, rfl, (hw4.mono hC6.back), hC6.bx⟩

theorem w_laws_sameSpans {w : World} {M : Nat → Prop} (_hG : ARep (RArr 4 RShape) w M shapes ⟨0, 0, none⟩) (hO : ∀ b, M b → b < w.heap.size) {v0p : Value} {a_a : List Span} (h0 : VRep (RSlice RSpan) w M a_a v0p) {v1p : Value} {a_b : List Span} (h1 : VRep (RSlice RSpan) w M a_b v1p) {r : Bool} (h : F.laws_sameSpans a_a a_b = some r) :
  Calls Tryd.prog 58 [v0p, v1p].toArray w fun e w' => ∃ v, e = .returned v ∧ VRep RBool w' M r v ∧ BX No w w' := by
 have hC : Cx No w M w M := Cx.start hO (fun _ e => e.elim)
 clear _hG
 refine walk (N := 26) Tryd.func58 rfl Tryd.ntmps58 rfl ?_
 refine cw_seq (cw_region (lw_op rfl rfl rfl (ow_assign rfl rfl ?_)))
 refine lw_nil (ew_then (cw_seq (cw_seq (cw_region (lw_op rfl rfl rfl (ow_move rfl rfl ?_))))))
 refine lw_op rfl rfl rfl (ow_len rfl rfl h0 Tryd.underlying58 rfl ?_)
 refine lw_op rfl rfl rfl (ow_move rfl rfl ?_)
 refine lw_op rfl rfl rfl (ow_len rfl rfl h1 Tryd.underlying58 rfl ?_)
 refine lw_op rfl rfl rfl (ow_neqI rfl rfl rfl fun bb1 hbb1 => ?_)
 refine lw_nil (ew_then ?_)
 replace h := cond_some h
 rcases h with ⟨hc1, h⟩ | ⟨hc1, h⟩
 ·
  obtain rfl := hbb1.trans hc1
  refine cw_true rfl ?_
  refine cw_seq (cw_region (lw_op rfl rfl rfl (ow_assign rfl rfl ?_)))
  refine lw_nil (ew_then (cw_ret (ew_thenR ?_)))
  obtain rfl := Option.some.inj h
  exact ew_ret (res1 rfl (.tmp rfl)) ⟨_, rfl, ((vbool _)), hC.bx⟩
 ·
  obtain rfl := hbb1.trans hc1
  refine cw_false rfl ?_
  refine cw_skip (ew_then (cw_seq (cw_seq (cw_region (lw_op rfl rfl rfl (ow_assign rfl rfl ?_))))))
  refine lw_nil (ew_then ?_)
  replace h := bind_some h
  obtain ⟨lr1, hlr1, h⟩ := h
  refine cw_for hlr1 (fun s a w' => ∃ (M' : Nat → Prop), Fits 26 [(0, v0p), (1, v1p), (5, (.int .i64 s))] a ∧ Le w M w' M' ∧ Cx No w M w' M') ?_ ?_ ?_
  ·
   intro a ha
   exact ⟨M, ha.sub ⟨rfl, rfl, rfl, trivial⟩, Le.refl _ _, hC⟩
  ·
   rintro k1 a w1 sr1 ⟨M1, hF1, hl1, hC1⟩ hb1 hR1
   refine cw_at (E := [(0, v0p), (1, v1p), (5, (.int .i64 k1))]) hF1 ?_
   refine cw_seq (cw_seq (cw_region (lw_op rfl rfl rfl (ow_move rfl rfl ?_))))
   refine lw_op rfl rfl rfl (ow_move rfl rfl ?_)
   refine lw_op rfl rfl rfl (ow_len rfl rfl (VRep.mono hl1 h0) Tryd.underlying58 rfl ?_)
   refine lw_op rfl rfl rfl (ow_lss rfl rfl rfl fun bb2 hbb2 => ?_)
   refine lw_nil (ew_then ?_)
   replace hb1 := cond_some hb1
   rcases hb1 with ⟨hc2, hb1⟩ | ⟨hc2, hb1⟩
   ·
    obtain rfl := hbb2.trans hc2
    refine cw_true rfl ?_
    refine cw_skip (ew_then (cw_seq (cw_block ?_)))
    refine cw_seq ?_
    replace hb1 := bind_some hb1
    obtain ⟨x1, hx1, hb1⟩ := hb1
    replace hb1 := bind_some hb1
    obtain ⟨x2, hx2, hb1⟩ := hb1
    refine cw_sub (E' := [(0, v0p), (1, v1p), (5, (.int .i64 k1))]) ⟨rfl, rfl, rfl, trivial⟩ ?_
    refine cw_drawQ 8 [PV (RSlice RSpan) M1 a_a, PEq (.int .i64 k1), PA RSpan M1 x1, PV RSpan M1 x1, PV (RSlice RSpan) M1 a_b, PEq (.int .i64 k1), PA RSpan M1 x2, PV RSpan M1 x2] (by kernel_rfl) rfl (by kernel_rfl) ⟨PV.mono _ _ _, PEq.mono _, PA.mono _ _ _, PV.mono _ _ _, PV.mono _ _ _, PEq.mono _, PA.mono _ _ _, PV.mono _ _ _, trivial⟩ ⟨?_, ?_, ?_, ?_, ?_, ?_, ?_, ?_, trivial⟩ ?_
    ·
     intro w2 D hS1 hd1
     have hl2 := Le.no M1 hS1
     have hC2 := hC1.no hS1
     refine dg_sub (E' := [(0, v0p)]) ⟨rfl, trivial⟩ ?_
     refine dg_plain rfl (ow_move rfl rfl ?_)
     exact ⟨BX.refl _ _, (VRep.mono (hl1.trans hl2) h0)⟩
    ·
     intro w3 D hS2 hd2
     have hl3 := Le.no M1 hS2
     have hC3 := hC1.no hS2
     refine dg_sub (E' := [(5, (.int .i64 k1))]) ⟨rfl, trivial⟩ ?_
     refine dg_plain rfl (ow_move rfl rfl ?_)
     exact ⟨BX.refl _ _, rfl⟩
    ·
     intro w4 D hS3 hd3
     have hl4 := Le.no M1 hS3
     have hC4 := hC1.no hS3
     have hd3 : PV (RSlice RSpan) M1 a_a (D 0) w4 ∧ PEq (.int .i64 k1) (D 1) w4 ∧ True := hd3
     obtain ⟨d1, d2, -⟩ := hd3
     obtain ⟨v4, hq1⟩ : ∃ v, (D 0) = v := ⟨_, rfl⟩
     rw [hq1] at d1
     refine dg_sub (E' := [(17, v4), (18, (.int .i64 k1))]) ⟨(congrArg some hq1), (congrArg some d2), trivial⟩ ?_
     refine dg_plain rfl (ow_indexSlice (R := RSpan) rfl rfl rfl d1 Tryd.underlying58 (Tryd.sizeOf76 _) hx1 fun p3 hp3 => ?_)
     exact ⟨BX.refl _ _, ⟨_, rfl, hp3⟩⟩
    ·
     intro w5 D hS4 hd4
     have hl5 := Le.no M1 hS4
     have hC5 := hC1.no hS4
     have hd4 : PA RSpan M1 x1 (D 2) w5 ∧ True := hd4
     obtain ⟨d3, -⟩ := hd4
     obtain ⟨p4, e1, ha1⟩ := d3
     refine dg_sub (E' := [(19, (.pointer (some p4)))]) ⟨(congrArg some e1), trivial⟩ ?_
     refine dg_plain rfl (ow_load (R := RSpan) rfl rfl ha1 (Tryd.sizeOf76 _) (Tryd.isAgg76 _) fun v5 hv5 => ?_)
     exact ⟨BX.refl _ _, hv5⟩
    ·
     intro w6 D hS5 hd5
     have hl6 := Le.no M1 hS5
     have hC6 := hC1.no hS5
     refine dg_sub (E' := [(1, v1p)]) ⟨rfl, trivial⟩ ?_
     refine dg_plain rfl (ow_move rfl rfl ?_)
     exact ⟨BX.refl _ _, (VRep.mono (hl1.trans hl6) h1)⟩
    ·
     intro w7 D hS6 hd6
     have hl7 := Le.no M1 hS6
     have hC7 := hC1.no hS6
     refine dg_sub (E' := [(5, (.int .i64 k1))]) ⟨rfl, trivial⟩ ?_
     refine dg_plain rfl (ow_move rfl rfl ?_)
     exact ⟨BX.refl _ _, rfl⟩
    ·
     intro w8 D hS7 hd7
     have hl8 := Le.no M1 hS7
     have hC8 := hC1.no hS7
     have hd7 : PV (RSlice RSpan) M1 a_b (D 4) w8 ∧ PEq (.int .i64 k1) (D 5) w8 ∧ True := hd7
     obtain ⟨d4, d5, -⟩ := hd7
     obtain ⟨v6, hq2⟩ : ∃ v, (D 4) = v := ⟨_, rfl⟩
     rw [hq2] at d4
     refine dg_sub (E' := [(21, v6), (22, (.int .i64 k1))]) ⟨(congrArg some hq2), (congrArg some d5), trivial⟩ ?_
     refine dg_plain rfl (ow_indexSlice (R := RSpan) rfl rfl rfl d4 Tryd.underlying58 (Tryd.sizeOf76 _) hx2 fun p5 hp5 => ?_)
     exact ⟨BX.refl _ _, ⟨_, rfl, hp5⟩⟩
    ·
     intro w9 D hS8 hd8
     have hl9 := Le.no M1 hS8
     have hC9 := hC1.no hS8
     have hd8 : PA RSpan M1 x2 (D 6) w9 ∧ True := hd8
     obtain ⟨d6, -⟩ := hd8
     obtain ⟨p6, e2, ha2⟩ := d6
     refine dg_sub (E' := [(23, (.pointer (some p6)))]) ⟨(congrArg some e2), trivial⟩ ?_
     refine dg_plain rfl (ow_load (R := RSpan) rfl rfl ha2 (Tryd.sizeOf76 _) (Tryd.isAgg76 _) fun v7 hv7 => ?_)
     exact ⟨BX.refl _ _, hv7⟩
    ·
     intro w10 D hS9 hd9
     have hd9 : PV (RSlice RSpan) M1 a_a (D 0) w10 ∧ PEq (.int .i64 k1) (D 1) w10 ∧ PA RSpan M1 x1 (D 2) w10 ∧ PV RSpan M1 x1 (D 3) w10 ∧ PV (RSlice RSpan) M1 a_b (D 4) w10 ∧ PEq (.int .i64 k1) (D 5) w10 ∧ PA RSpan M1 x2 (D 6) w10 ∧ PV RSpan M1 x2 (D 7) w10 ∧ True := hd9
     obtain ⟨-, -, -, d10, -, -, -, d14, -⟩ := hd9
     have hl10 := Le.no M1 hS9
     have hC10 := hC1.no hS9
     obtain ⟨v8, hq3⟩ : ∃ v, (D 3) = v := ⟨_, rfl⟩
     rw [hq3] at d10
     obtain ⟨v9, hq4⟩ : ∃ v, (D 7) = v := ⟨_, rfl⟩
     rw [hq4] at d14
     refine lw_sub (E' := [(20, v8), (24, v9), (0, v0p), (1, v1p), (5, (.int .i64 k1))]) ⟨(congrArg some hq3), (congrArg some hq4), rfl, rfl, rfl, trivial⟩ ?_
     obtain rfl := open_Span d10
     obtain rfl := open_Span d14
     refine lw_op rfl rfl rfl (ow_neqS rfl rfl rfl (Tryd.eqGuardType76) (eqS76 (x := x1) (y := x2) _) fun bb3 hbb3 => ?_)
     refine lw_nil (ew_then ?_)
     replace hb1 := cond_some hb1
     rcases hb1 with ⟨hc3, hb1⟩ | ⟨hc3, hb1⟩
     ·
      obtain rfl := hbb3.trans hc3
      refine cw_true rfl ?_
      refine cw_seq (cw_region (lw_op rfl rfl rfl (ow_assign rfl rfl ?_)))
      refine lw_nil (ew_then (cw_ret (ew_blockR ?_)))
      refine ew_thenR (ew_thenR (ew_blockR ?_))
      refine ew_brkR ?_
      refine ew_thenR ?_
      have e3 := hR1 _ (Option.some.inj hb1).symm
      subst e3
      obtain rfl := Option.some.inj h
      exact ew_ret (res1 rfl (.tmp rfl)) ⟨_, rfl, ((vbool _)), hC10.bx⟩
     ·
      obtain rfl := hbb3.trans hc3
      refine cw_false rfl ?_
      refine cw_skip (ew_blockN ?_)
      refine ew_then (cw_region (lw_op rfl rfl rfl (ow_move rfl rfl ?_)))
      refine lw_op rfl rfl rfl (ow_add rfl rfl rfl ?_)
      refine lw_op rfl rfl rfl (ow_assign rfl rfl ?_)
      refine lw_nil (ew_nxt (W (k1 + 1)) hb1 fun a ha => ⟨M1, ?_, (hl1.trans hl10), hC10⟩)
      exact ha.sub ⟨rfl, rfl, rfl, trivial⟩
   ·
    obtain rfl := hbb2.trans hc2
    refine cw_false rfl ?_
    refine cw_exit ?_
    refine ew_thenX ?_
    refine ew_thenX ?_
    refine ew_blockX ?_
    refine ew_brk k1 hb1 fun a ha => ⟨M1, ?_, hl1, hC1⟩
    exact ha.sub ⟨rfl, rfl, rfl, trivial⟩
  ·
   rintro k2 a w11 hlr2 ⟨M2, hF2, hl11, hC11⟩
   subst hlr2
   refine ew_at (E := [(0, v0p), (1, v1p), (5, (.int .i64 k2))]) hF2 ?_
   refine ew_then (cw_seq (cw_region (lw_op rfl rfl rfl (ow_assign rfl rfl ?_))))
   refine lw_nil (ew_then (cw_ret ?_))
   obtain rfl := Option.some.inj h
   exact ew_ret (res1 rfl (.tmp rfl)) ⟨_, rfl, ((vbool _)), hC11.bx⟩

theorem w_laws_sameBox {w : World} {M : Nat → Prop} (hG : ARep (RArr 4 RShape) w M shapes ⟨0, 0, none⟩) (hO : ∀ b, M b → b < w.heap.size) {v0p : Value} {a_a : Box} (h0 : VRep RBox w M a_a v0p) {v1p : Value} {a_b : Box} (h1 : VRep RBox w M a_b v1p) {r : Bool} (h : F.laws_sameBox a_a a_b = some r) :
  Calls Tryd.prog 17 [v0p, v1p].toArray w fun e w' => ∃ v, e = .returned v ∧ VRep RBool w' M r v ∧ BX No w w' := by
 have hC : Cx No w M w M := Cx.start hO (fun _ e => e.elim)
 refine walk (N := 32) Tryd.func17 rfl Tryd.ntmps17 rfl ?_
 refine cw_seq (cw_region (lw_op rfl rfl rfl (ow_box (R := RBox) rfl rfl h0 hC fun p1 w1 hp1 hb1 hl1 hC1 => ?_)))
 refine lw_op rfl rfl rfl (ow_box (R := RBox) rfl rfl (VRep.mono hl1 h1) hC1 fun p2 w2 hp2 hb2 hl2 hC2 => ?_)
 refine lw_op rfl rfl rfl (ow_assign rfl rfl ?_)
 refine lw_nil (ew_then (cw_seq (cw_seq (cw_region (lw_op rfl rfl rfl (ow_fieldAddr rfl rfl Tryd.underlying27 rfl (Tryd.sizeOf25 _) ?_))))))
 refine lw_op rfl rfl rfl (ow_load (R := (RSlice (RSlice RSpan))) rfl rfl (ARep.mono hl2 (hp1.fld fld_Box_Sides)) (Tryd.sizeOf25 _) (Tryd.isAgg25 _) fun v1 hv1 => ?_)
 refine lw_op rfl rfl rfl (ow_len rfl rfl hv1 Tryd.underlying25 rfl ?_)
 refine lw_op rfl rfl rfl (ow_fieldAddr rfl rfl Tryd.underlying27 rfl (Tryd.sizeOf25 _) ?_)
 refine lw_op rfl rfl rfl (ow_load (R := (RSlice (RSlice RSpan))) rfl rfl (hp2.fld fld_Box_Sides) (Tryd.sizeOf25 _) (Tryd.isAgg25 _) fun v2 hv2 => ?_)
 refine lw_op rfl rfl rfl (ow_len rfl rfl hv2 Tryd.underlying25 rfl ?_)
 refine lw_op rfl rfl rfl (ow_neqI rfl rfl rfl fun bb1 hbb1 => ?_)
 refine lw_nil (ew_then ?_)
 replace h := cond_some h
 rcases h with ⟨hc1, h⟩ | ⟨hc1, h⟩
 ·
  obtain rfl := hbb1.trans hc1
  refine cw_true rfl ?_
  refine cw_seq (cw_region (lw_op rfl rfl rfl (ow_assign rfl rfl ?_)))
  refine lw_nil (ew_then (cw_ret (ew_thenR ?_)))
  obtain rfl := Option.some.inj h
  exact ew_ret (res1 rfl (.tmp rfl)) ⟨_, rfl, ((vbool _)), hC2.bx⟩
 ·
  obtain rfl := hbb1.trans hc1
  refine cw_false rfl ?_
  refine cw_skip (ew_then (cw_seq (cw_seq (cw_region (lw_op rfl rfl rfl (ow_assign rfl rfl ?_))))))
  refine lw_nil (ew_then ?_)
  replace h := bind_some h
  obtain ⟨lr1, hlr1, h⟩ := h
  refine cw_for hlr1 (fun s a w' => ∃ (M' : Nat → Prop), Fits 32 [(2, (.pointer (some p1))), (3, (.pointer (some p2))), (5, (.int .i64 s))] a ∧ Le w2 M w' M' ∧ Cx No w M w' M') ?_ ?_ ?_
  ·
   intro a ha
   exact ⟨M, ha.sub ⟨rfl, rfl, rfl, trivial⟩, Le.refl _ _, hC2⟩
  ·
   rintro k1 a w3 sr1 ⟨M1, hF1, hl3, hC3⟩ hb3 hR1
   refine cw_at (E := [(2, (.pointer (some p1))), (3, (.pointer (some p2))), (5, (.int .i64 k1))]) hF1 ?_
   refine cw_seq (cw_seq (cw_region (lw_op rfl rfl rfl (ow_move rfl rfl ?_))))
   refine lw_op rfl rfl rfl (ow_fieldAddr rfl rfl Tryd.underlying27 rfl (Tryd.sizeOf25 _) ?_)
   refine lw_op rfl rfl rfl (ow_load (R := (RSlice (RSlice RSpan))) rfl rfl (ARep.mono (hl2.trans hl3) (hp1.fld fld_Box_Sides)) (Tryd.sizeOf25 _) (Tryd.isAgg25 _) fun v4 hv4 => ?_)
   refine lw_op rfl rfl rfl (ow_len rfl rfl hv4 Tryd.underlying25 rfl ?_)
   refine lw_op rfl rfl rfl (ow_lss rfl rfl rfl fun bb2 hbb2 => ?_)
   refine lw_nil (ew_then ?_)
   replace hb3 := cond_some hb3
   rcases hb3 with ⟨hc2, hb3⟩ | ⟨hc2, hb3⟩
   ·
    obtain rfl := hbb2.trans hc2
    refine cw_true rfl ?_
    refine cw_skip (ew_then (cw_seq (cw_block ?_)))
    refine cw_seq ?_
    replace hb3 := bind_some hb3
    obtain ⟨x1, hx1, hb3⟩ := hb3
    replace hb3 := bind_some hb3
    obtain ⟨x2, hx2, hb3⟩ := hb3
    refine cw_sub (E' := [(2, (.pointer (some p1))), (3, (.pointer (some p2))), (5, (.int .i64 k1))]) ⟨rfl, rfl, rfl, trivial⟩ ?_
    refine cw_drawQ 10 [PA (RSlice (RSlice RSpan)) M1 a_a.Sides, PV (RSlice (RSlice RSpan)) M1 a_a.Sides, PEq (.int .i64 k1), PA (RSlice RSpan) M1 x1, PV (RSlice RSpan) M1 x1, PA (RSlice (RSlice RSpan)) M1 a_b.Sides, PV (RSlice (RSlice RSpan)) M1 a_b.Sides, PEq (.int .i64 k1), PA (RSlice RSpan) M1 x2, PV (RSlice RSpan) M1 x2] (by kernel_rfl) rfl (by kernel_rfl) ⟨PA.mono _ _ _, PV.mono _ _ _, PEq.mono _, PA.mono _ _ _, PV.mono _ _ _, PA.mono _ _ _, PV.mono _ _ _, PEq.mono _, PA.mono _ _ _, PV.mono _ _ _, trivial⟩ ⟨?_, ?_, ?_, ?_, ?_, ?_, ?_, ?_, ?_, ?_, trivial⟩ ?_
    ·
     intro w4 D hS1 hd1
     have hl4 := Le.no M1 hS1
     have hC4 := hC3.no hS1
     refine dg_sub (E' := [(2, (.pointer (some p1)))]) ⟨rfl, trivial⟩ ?_
     refine dg_plain rfl (ow_fieldAddr rfl rfl Tryd.underlying27 rfl (Tryd.sizeOf25 _) ?_)
     exact ⟨BX.refl _ _, ⟨_, rfl, (ARep.mono ((hl2.trans hl3).trans hl4) (hp1.fld fld_Box_Sides))⟩⟩
    ·
     intro w5 D hS2 hd2
     have hl5 := Le.no M1 hS2
     have hC5 := hC3.no hS2
     have hd2 : PA (RSlice (RSlice RSpan)) M1 a_a.Sides (D 0) w5 ∧ True := hd2
     obtain ⟨d1, -⟩ := hd2
     obtain ⟨p5, e1, ha1⟩ := d1
     refine dg_sub (E' := [(20, (.pointer (some p5)))]) ⟨(congrArg some e1), trivial⟩ ?_
     refine dg_plain rfl (ow_load (R := (RSlice (RSlice RSpan))) rfl rfl ha1 (Tryd.sizeOf25 _) (Tryd.isAgg25 _) fun v9 hv9 => ?_)
     exact ⟨BX.refl _ _, hv9⟩
    ·
     intro w6 D hS3 hd3
     have hl6 := Le.no M1 hS3
     have hC6 := hC3.no hS3
     refine dg_sub (E' := [(5, (.int .i64 k1))]) ⟨rfl, trivial⟩ ?_
     refine dg_plain rfl (ow_move rfl rfl ?_)
     exact ⟨BX.refl _ _, rfl⟩
    ·
     intro w7 D hS4 hd4
     have hl7 := Le.no M1 hS4
     have hC7 := hC3.no hS4
     have hd4 : PV (RSlice (RSlice RSpan)) M1 a_a.Sides (D 1) w7 ∧ PEq (.int .i64 k1) (D 2) w7 ∧ True := hd4
     obtain ⟨d2, d3, -⟩ := hd4
     obtain ⟨v10, hq1⟩ : ∃ v, (D 1) = v := ⟨_, rfl⟩
     rw [hq1] at d2
     refine dg_sub (E' := [(21, v10), (22, (.int .i64 k1))]) ⟨(congrArg some hq1), (congrArg some d3), trivial⟩ ?_
     refine dg_plain rfl (ow_indexSlice (R := (RSlice RSpan)) rfl rfl rfl d2 Tryd.underlying25 (Tryd.sizeOf58 _) hx1 fun p6 hp6 => ?_)
     exact ⟨BX.refl _ _, ⟨_, rfl, hp6⟩⟩
    ·
     intro w8 D hS5 hd5
     have hl8 := Le.no M1 hS5
     have hC8 := hC3.no hS5
     have hd5 : PA (RSlice RSpan) M1 x1 (D 3) w8 ∧ True := hd5
     obtain ⟨d4, -⟩ := hd5
     obtain ⟨p7, e2, ha2⟩ := d4
     refine dg_sub (E' := [(23, (.pointer (some p7)))]) ⟨(congrArg some e2), trivial⟩ ?_
     refine dg_plain rfl (ow_load (R := (RSlice RSpan)) rfl rfl ha2 (Tryd.sizeOf58 _) (Tryd.isAgg58 _) fun v11 hv11 => ?_)
     exact ⟨BX.refl _ _, hv11⟩
    ·
     intro w9 D hS6 hd6
     have hl9 := Le.no M1 hS6
     have hC9 := hC3.no hS6
     refine dg_sub (E' := [(3, (.pointer (some p2)))]) ⟨rfl, trivial⟩ ?_
     refine dg_plain rfl (ow_fieldAddr rfl rfl Tryd.underlying27 rfl (Tryd.sizeOf25 _) ?_)
     exact ⟨BX.refl _ _, ⟨_, rfl, (ARep.mono (hl3.trans hl9) (hp2.fld fld_Box_Sides))⟩⟩
    ·
     intro w10 D hS7 hd7
     have hl10 := Le.no M1 hS7
     have hC10 := hC3.no hS7
     have hd7 : PA (RSlice (RSlice RSpan)) M1 a_b.Sides (D 5) w10 ∧ True := hd7
     obtain ⟨d5, -⟩ := hd7
     obtain ⟨p8, e3, ha3⟩ := d5
     refine dg_sub (E' := [(25, (.pointer (some p8)))]) ⟨(congrArg some e3), trivial⟩ ?_
     refine dg_plain rfl (ow_load (R := (RSlice (RSlice RSpan))) rfl rfl ha3 (Tryd.sizeOf25 _) (Tryd.isAgg25 _) fun v12 hv12 => ?_)
     exact ⟨BX.refl _ _, hv12⟩
    ·
     intro w11 D hS8 hd8
     have hl11 := Le.no M1 hS8
     have hC11 := hC3.no hS8
     refine dg_sub (E' := [(5, (.int .i64 k1))]) ⟨rfl, trivial⟩ ?_
     refine dg_plain rfl (ow_move rfl rfl ?_)
     exact ⟨BX.refl _ _, rfl⟩
    ·
     intro w12 D hS9 hd9
     have hl12 := Le.no M1 hS9
     have hC12 := hC3.no hS9
     have hd9 : PV (RSlice (RSlice RSpan)) M1 a_b.Sides (D 6) w12 ∧ PEq (.int .i64 k1) (D 7) w12 ∧ True := hd9
     obtain ⟨d6, d7, -⟩ := hd9
     obtain ⟨v13, hq2⟩ : ∃ v, (D 6) = v := ⟨_, rfl⟩
     rw [hq2] at d6
     refine dg_sub (E' := [(26, v13), (27, (.int .i64 k1))]) ⟨(congrArg some hq2), (congrArg some d7), trivial⟩ ?_
     refine dg_plain rfl (ow_indexSlice (R := (RSlice RSpan)) rfl rfl rfl d6 Tryd.underlying25 (Tryd.sizeOf58 _) hx2 fun p9 hp9 => ?_)
     exact ⟨BX.refl _ _, ⟨_, rfl, hp9⟩⟩
    ·
     intro w13 D hS10 hd10
     have hl13 := Le.no M1 hS10
     have hC13 := hC3.no hS10
     have hd10 : PA (RSlice RSpan) M1 x2 (D 8) w13 ∧ True := hd10
     obtain ⟨d8, -⟩ := hd10
     obtain ⟨p10, e4, ha4⟩ := d8
     refine dg_sub (E' := [(28, (.pointer (some p10)))]) ⟨(congrArg some e4), trivial⟩ ?_
     refine dg_plain rfl (ow_load (R := (RSlice RSpan)) rfl rfl ha4 (Tryd.sizeOf58 _) (Tryd.isAgg58 _) fun v14 hv14 => ?_)
     exact ⟨BX.refl _ _, hv14⟩
    ·
     intro w14 D hS11 hd11
     have hd11 : PA (RSlice (RSlice RSpan)) M1 a_a.Sides (D 0) w14 ∧ PV (RSlice (RSlice RSpan)) M1 a_a.Sides (D 1) w14 ∧ PEq (.int .i64 k1) (D 2) w14 ∧ PA (RSlice RSpan) M1 x1 (D 3) w14 ∧ PV (RSlice RSpan) M1 x1 (D 4) w14 ∧ PA (RSlice (RSlice RSpan)) M1 a_b.Sides (D 5) w14 ∧ PV (RSlice (RSlice RSpan)) M1 a_b.Sides (D 6) w14 ∧ PEq (.int .i64 k1) (D 7) w14 ∧ PA (RSlice RSpan) M1 x2 (D 8) w14 ∧ PV (RSlice RSpan) M1 x2 (D 9) w14 ∧ True := hd11
     obtain ⟨-, -, -, -, d13, -, -, -, -, d18, -⟩ := hd11
     have hl14 := Le.no M1 hS11
     have hC14 := hC3.no hS11
     obtain ⟨v15, hq3⟩ : ∃ v, (D 4) = v := ⟨_, rfl⟩
     rw [hq3] at d13
     obtain ⟨v16, hq4⟩ : ∃ v, (D 9) = v := ⟨_, rfl⟩
     rw [hq4] at d18
     refine lw_sub (E' := [(24, v15), (29, v16), (2, (.pointer (some p1))), (3, (.pointer (some p2))), (5, (.int .i64 k1))]) ⟨(congrArg some hq3), (congrArg some hq4), rfl, rfl, rfl, trivial⟩ ?_
     replace hb3 := bind_some hb3
     obtain ⟨x3, hx3, hb3⟩ := hb3
     refine lw_op rfl rfl rfl (ow_call rfl rfl Tryd.call58 (w_laws_sameSpans (hG.mono (((hl1.trans hl2).trans hl3).trans hl14)) hC14.old d13 d18 hx3) fun v17 w15 hv17 => ?_)
     obtain ⟨hv17, hb4⟩ := hv17
     have hl15 := Le.no M1 hb4
     have hC15 := hC14.no hb4
     obtain rfl := vbool_eq hv17
     refine lw_op rfl rfl rfl (ow_not rfl rfl ?_)
     refine lw_nil (ew_then ?_)
     replace hb3 := cond_some hb3
     rcases hb3 with ⟨hc3, hb3⟩ | ⟨hc3, hb3⟩
     ·
      subst hc3
      refine cw_false rfl ?_
      refine cw_skip (ew_blockN ?_)
      refine ew_then (cw_region (lw_op rfl rfl rfl (ow_move rfl rfl ?_)))
      refine lw_op rfl rfl rfl (ow_add rfl rfl rfl ?_)
      refine lw_op rfl rfl rfl (ow_assign rfl rfl ?_)
      refine lw_nil (ew_nxt (W (k1 + 1)) hb3 fun a ha => ⟨M1, ?_, ((hl3.trans hl14).trans hl15), hC15⟩)
      exact ha.sub ⟨rfl, rfl, rfl, trivial⟩
     ·
      subst hc3
      refine cw_true rfl ?_
      refine cw_seq (cw_region (lw_op rfl rfl rfl (ow_assign rfl rfl ?_)))
      refine lw_nil (ew_then (cw_ret (ew_blockR ?_)))
      refine ew_thenR (ew_thenR (ew_blockR ?_))
      refine ew_brkR ?_
      refine ew_thenR ?_
      have e5 := hR1 _ (Option.some.inj hb3).symm
      subst e5
      obtain rfl := Option.some.inj h
      exact ew_ret (res1 rfl (.tmp rfl)) ⟨_, rfl, ((vbool _)), hC15.bx⟩
   ·
    obtain rfl := hbb2.trans hc2
    refine cw_false rfl ?_
    refine cw_exit ?_
    refine ew_thenX ?_
    refine ew_thenX ?_
    refine ew_blockX ?_
    refine ew_brk k1 hb3 fun a ha => ⟨M1, ?_, hl3, hC3⟩
    exact ha.sub ⟨rfl, rfl, rfl, trivial⟩
  ·
   rintro k2 a w16 hlr2 ⟨M2, hF2, hl16, hC16⟩
   subst hlr2
   refine ew_at (E := [(2, (.pointer (some p1))), (3, (.pointer (some p2))), (5, (.int .i64 k2))]) hF2 ?_
   refine ew_then (cw_seq (cw_region (lw_op rfl rfl rfl (ow_assign rfl rfl ?_))))
   refine lw_nil (ew_then (cw_ret ?_))
   obtain rfl := Option.some.inj h
   exact ew_ret (res1 rfl (.tmp rfl)) ⟨_, rfl, ((vbool _)), hC16.bx⟩

theorem w_spec_l1In {w : World} {M : Nat → Prop} (_hG : ARep (RArr 4 RShape) w M shapes ⟨0, 0, none⟩) (hO : ∀ b, M b → b < w.heap.size) {a_n : Int} {a_lo : Int} {a_hi : Int} {r : Bool} (h : F.spec_l1In a_n a_lo a_hi = some r) :
  Calls Tryd.prog 82 [(.int .i64 a_n), (.int .i64 a_lo), (.int .i64 a_hi)].toArray w fun e w' => ∃ v, e = .returned v ∧ VRep RBool w' M r v ∧ BX No w w' := by
 have hC : Cx No w M w M := Cx.start hO (fun _ e => e.elim)
 clear _hG
 refine walk (N := 15) Tryd.func82 rfl Tryd.ntmps82 rfl ?_
 refine cw_seq (cw_region (lw_op rfl rfl rfl (ow_assign rfl rfl ?_)))
 refine lw_nil (ew_then (cw_seq (cw_region (lw_op rfl rfl rfl (ow_move rfl rfl ?_)))))
 refine lw_op rfl rfl rfl (ow_move rfl rfl ?_)
 refine lw_op rfl rfl rfl (ow_geq rfl rfl rfl fun bb1 hbb1 => ?_)
 refine lw_op rfl rfl rfl (ow_move rfl rfl ?_)
 replace h := cond_some h
 rcases h with ⟨hc1, h⟩ | ⟨hc1, h⟩
 ·
  obtain rfl := hbb1.trans hc1
  refine lw_on rfl rfl rfl rfl rfl rfl (ow_move rfl rfl ?_)
  refine lw_on rfl rfl rfl rfl rfl rfl (ow_move rfl rfl ?_)
  refine lw_on rfl rfl rfl rfl rfl rfl (ow_leq rfl rfl rfl fun bb2 hbb2 => ?_)
  refine lw_op rfl rfl rfl (ow_pickT rfl rfl rfl ?_)
  refine lw_op rfl rfl rfl (ow_assign rfl rfl ?_)
  refine lw_nil (ew_then (cw_ret ?_))
  obtain rfl := Option.some.inj h
  exact ew_ret (res1 rfl (.tmp rfl)) ⟨_, rfl, ((vbool_of hbb2)), hC.bx⟩
 ·
  obtain rfl := hbb1.trans hc1
  refine lw_off rfl rfl rfl rfl rfl rfl ?_
  refine lw_off rfl rfl rfl rfl rfl rfl ?_
  refine lw_off rfl rfl rfl rfl rfl rfl ?_
  refine lw_op rfl rfl rfl (ow_pickF rfl rfl rfl ?_)
  refine lw_op rfl rfl rfl (ow_assign rfl rfl ?_)
  refine lw_nil (ew_then (cw_ret ?_))
  obtain rfl := Option.some.inj h
  exact ew_ret (res1 rfl (.tmp rfl)) ⟨_, rfl, ((vbool _)), hC.bx⟩

theorem w_spec_TestValid {w : World} {M : Nat → Prop} (hG : ARep (RArr 4 RShape) w M shapes ⟨0, 0, none⟩) (hO : ∀ b, M b → b < w.heap.size) {v0p : Value} {a_t : Test} (h0 : VRep RTest w M a_t v0p) {r : Bool} (h : F.spec_TestValid a_t = some r) :
  Calls Tryd.prog 64 [v0p].toArray w fun e w' => ∃ v, e = .returned v ∧ VRep RBool w' M r v ∧ BX No w w' := by
 have hC : Cx No w M w M := Cx.start hO (fun _ e => e.elim)
 refine walk (N := 21) Tryd.func64 rfl Tryd.ntmps64 rfl ?_
 refine cw_seq (cw_region (lw_op rfl rfl rfl (ow_box (R := RTest) rfl rfl h0 hC fun p1 w1 hp1 hb1 hl1 hC1 => ?_)))
 refine lw_op rfl rfl rfl (ow_assign rfl rfl ?_)
 refine lw_nil (ew_then (cw_seq ?_))
 replace h := bind_some h
 obtain ⟨x1, hx1, h⟩ := h
 replace h := cond_some h
 rcases h with ⟨hc1, h⟩ | ⟨hc1, h⟩
 ·
  subst hc1
  replace h := bind_some h
  obtain ⟨x2, hx2, h⟩ := h
  replace h := cond_some h
  rcases h with ⟨hc2, h⟩ | ⟨hc2, h⟩
  ·
   subst hc2
   replace h := bind_some h
   obtain ⟨x3, hx3, h⟩ := h
   refine cw_sub (E' := [(1, (.pointer (some p1))), (2, (.bool false))]) ⟨rfl, rfl, trivial⟩ ?_
   refine cw_drawQ 16 [PA RInt M a_t.Field, PEq (.int .i64 a_t.Field), PEq (.bool true), PEq (.bool true), PA RInt M a_t.Lo, PEq (.int .i64 a_t.Lo), PA RInt M a_t.Hi, PEq (.int .i64 a_t.Hi), PEq (.bool true), PEq (.bool true), PEq (.bool true), PA RInt M a_t.Hi, PEq (.int .i64 a_t.Hi), PA RInt M a_t.Field, PEq (.int .i64 a_t.Field), PEq (.int .i64 x3)] (by kernel_rfl) rfl (by kernel_rfl) ⟨PA.mono _ _ _, PEq.mono _, PEq.mono _, PEq.mono _, PA.mono _ _ _, PEq.mono _, PA.mono _ _ _, PEq.mono _, PEq.mono _, PEq.mono _, PEq.mono _, PA.mono _ _ _, PEq.mono _, PA.mono _ _ _, PEq.mono _, PEq.mono _, trivial⟩ ⟨?_, ?_, ?_, ?_, ?_, ?_, ?_, ?_, ?_, ?_, ?_, ?_, ?_, ?_, ?_, ?_, trivial⟩ ?_
   ·
    intro w5 D hS1 hd1
    have hl5 := Le.no M hS1
    have hC5 := hC1.no hS1
    refine dg_sub (E' := [(1, (.pointer (some p1)))]) ⟨rfl, trivial⟩ ?_
    refine dg_plain rfl (ow_fieldAddr rfl rfl Tryd.underlying31 rfl (Tryd.sizeOf3 _) ?_)
    exact ⟨BX.refl _ _, ⟨_, rfl, (ARep.mono hl5 (hp1.fld fld_Test_Field))⟩⟩
   ·
    intro w6 D hS2 hd2
    have hl6 := Le.no M hS2
    have hC6 := hC1.no hS2
    have hd2 : PA RInt M a_t.Field (D 0) w6 ∧ True := hd2
    obtain ⟨d1, -⟩ := hd2
    obtain ⟨p2, e1, ha1⟩ := d1
    refine dg_sub (E' := [(3, (.pointer (some p2)))]) ⟨(congrArg some e1), trivial⟩ ?_
    refine dg_plain rfl (ow_load (R := RInt) rfl rfl ha1 (Tryd.sizeOf3 _) (Tryd.isAgg3 _) fun v9 hv9 => ?_)
    obtain rfl := vint_eq hv9
    exact ⟨BX.refl _ _, rfl⟩
   ·
    intro w7 D hS3 hd3
    have hl7 := Le.no M hS3
    have hC7 := hC1.no hS3
    have hd3 : PEq (.int .i64 a_t.Field) (D 1) w7 ∧ True := hd3
    obtain ⟨d2, -⟩ := hd3
    refine dg_sub (E' := [(4, (.int .i64 a_t.Field))]) ⟨(congrArg some d2), trivial⟩ ?_
    refine dg_plain rfl (ow_call rfl rfl Tryd.call82 (w_spec_l1In (hG.mono (hl1.trans hl7)) hC7.old hx1) fun v10 w8 hv10 => ?_)
    obtain ⟨hv10, hb5⟩ := hv10
    have hl8 := Le.no M hb5
    have hC8 := hC7.no hb5
    obtain rfl := vbool_eq hv10
    exact ⟨hb5, rfl⟩
   ·
    intro w9 D hS4 hd4
    have hl9 := Le.no M hS4
    have hC9 := hC1.no hS4
    have hd4 : PEq (.bool true) (D 2) w9 ∧ PEq (.bool true) (D 2) w9 ∧ True := hd4
    obtain ⟨d3, d4, -⟩ := hd4
    refine dg_sub (E' := [(5, (.bool true))]) ⟨(congrArg some d3), trivial⟩ ?_
    refine dg_plain rfl (ow_move rfl rfl ?_)
    exact ⟨BX.refl _ _, rfl⟩
   ·
    intro w10 D hS5 hd5
    have hl10 := Le.no M hS5
    have hC10 := hC1.no hS5
    have hd5 : PEq (.bool true) (D 3) w10 ∧ True := hd5
    obtain ⟨d5, -⟩ := hd5
    refine dg_sub (E' := [(6, (.bool true)), (1, (.pointer (some p1)))]) ⟨(congrArg some d5), rfl, trivial⟩ ?_
    refine dg_on rfl rfl rfl rfl (ow_fieldAddr rfl rfl Tryd.underlying31 rfl (Tryd.sizeOf3 _) ?_)
    exact ⟨BX.refl _ _, ⟨_, rfl, (ARep.mono hl10 (hp1.fld fld_Test_Lo))⟩⟩
   ·
    intro w11 D hS6 hd6
    have hl11 := Le.no M hS6
    have hC11 := hC1.no hS6
    have hd6 : PA RInt M a_t.Lo (D 4) w11 ∧ PEq (.bool true) (D 3) w11 ∧ True := hd6
    obtain ⟨d6, d7, -⟩ := hd6
    obtain ⟨p3, e2, ha2⟩ := d6
    refine dg_sub (E' := [(7, (.pointer (some p3))), (6, (.bool true))]) ⟨(congrArg some e2), (congrArg some d7), trivial⟩ ?_
    refine dg_on rfl rfl rfl rfl (ow_load (R := RInt) rfl rfl ha2 (Tryd.sizeOf3 _) (Tryd.isAgg3 _) fun v11 hv11 => ?_)
    obtain rfl := vint_eq hv11
    exact ⟨BX.refl _ _, rfl⟩
   ·
    intro w12 D hS7 hd7
    have hl12 := Le.no M hS7
    have hC12 := hC1.no hS7
    have hd7 : PEq (.bool true) (D 3) w12 ∧ True := hd7
    obtain ⟨d8, -⟩ := hd7
    refine dg_sub (E' := [(6, (.bool true)), (1, (.pointer (some p1)))]) ⟨(congrArg some d8), rfl, trivial⟩ ?_
    refine dg_on rfl rfl rfl rfl (ow_fieldAddr rfl rfl Tryd.underlying31 rfl (Tryd.sizeOf3 _) ?_)
    exact ⟨BX.refl _ _, ⟨_, rfl, (ARep.mono hl12 (hp1.fld fld_Test_Hi))⟩⟩
   ·
    intro w13 D hS8 hd8
    have hl13 := Le.no M hS8
    have hC13 := hC1.no hS8
    have hd8 : PA RInt M a_t.Hi (D 6) w13 ∧ PEq (.bool true) (D 3) w13 ∧ True := hd8
    obtain ⟨d9, d10, -⟩ := hd8
    obtain ⟨p4, e3, ha3⟩ := d9
    refine dg_sub (E' := [(9, (.pointer (some p4))), (6, (.bool true))]) ⟨(congrArg some e3), (congrArg some d10), trivial⟩ ?_
    refine dg_on rfl rfl rfl rfl (ow_load (R := RInt) rfl rfl ha3 (Tryd.sizeOf3 _) (Tryd.isAgg3 _) fun v12 hv12 => ?_)
    obtain rfl := vint_eq hv12
    exact ⟨BX.refl _ _, rfl⟩
   ·
    intro w14 D hS9 hd9
    have hl14 := Le.no M hS9
    have hC14 := hC1.no hS9
    have hd9 : PEq (.int .i64 a_t.Lo) (D 5) w14 ∧ PEq (.int .i64 a_t.Hi) (D 7) w14 ∧ PEq (.bool true) (D 3) w14 ∧ PEq (.bool true) (D 3) w14 ∧ True := hd9
    obtain ⟨d11, d12, d13, d14, -⟩ := hd9
    refine dg_sub (E' := [(8, (.int .i64 a_t.Lo)), (10, (.int .i64 a_t.Hi)), (6, (.bool true))]) ⟨(congrArg some d11), (congrArg some d12), (congrArg some d13), trivial⟩ ?_
    refine dg_on rfl rfl rfl rfl (ow_call rfl rfl Tryd.call82 (w_spec_l1In (hG.mono (hl1.trans hl14)) hC14.old hx2) fun v13 w15 hv13 => ?_)
    obtain ⟨hv13, hb6⟩ := hv13
    have hl15 := Le.no M hb6
    have hC15 := hC14.no hb6
    obtain rfl := vbool_eq hv13
    exact ⟨hb6, rfl⟩
   ·
    intro w16 D hS10 hd10
    have hl16 := Le.no M hS10
    have hC16 := hC1.no hS10
    have hd10 : PEq (.bool true) (D 3) w16 ∧ PEq (.bool true) (D 8) w16 ∧ True := hd10
    obtain ⟨d15, d16, -⟩ := hd10
    refine dg_sub (E' := [(6, (.bool true)), (11, (.bool true))]) ⟨(congrArg some d15), (congrArg some d16), trivial⟩ ?_
    refine dg_plain rfl (ow_pickT rfl rfl rfl ?_)
    exact ⟨BX.refl _ _, rfl⟩
   ·
    intro w17 D hS11 hd11
    have hl17 := Le.no M hS11
    have hC17 := hC1.no hS11
    have hd11 : PEq (.bool true) (D 9) w17 ∧ PEq (.bool true) (D 8) w17 ∧ True := hd11
    obtain ⟨d17, d18, -⟩ := hd11
    refine dg_sub (E' := [(12, (.bool true))]) ⟨(congrArg some d17), trivial⟩ ?_
    refine dg_plain rfl (ow_move rfl rfl ?_)
    exact ⟨BX.refl _ _, rfl⟩
   ·
    intro w18 D hS12 hd12
    have hl18 := Le.no M hS12
    have hC18 := hC1.no hS12
    have hd12 : PEq (.bool true) (D 10) w18 ∧ True := hd12
    obtain ⟨d19, -⟩ := hd12
    refine dg_sub (E' := [(13, (.bool true)), (1, (.pointer (some p1)))]) ⟨(congrArg some d19), rfl, trivial⟩ ?_
    refine dg_on rfl rfl rfl rfl (ow_fieldAddr rfl rfl Tryd.underlying31 rfl (Tryd.sizeOf3 _) ?_)
    exact ⟨BX.refl _ _, ⟨_, rfl, (ARep.mono hl18 (hp1.fld fld_Test_Hi))⟩⟩
   ·
    intro w19 D hS13 hd13
    have hl19 := Le.no M hS13
    have hC19 := hC1.no hS13
    have hd13 : PA RInt M a_t.Hi (D 11) w19 ∧ PEq (.bool true) (D 10) w19 ∧ True := hd13
    obtain ⟨d20, d21, -⟩ := hd13
    obtain ⟨p5, e4, ha4⟩ := d20
    refine dg_sub (E' := [(14, (.pointer (some p5))), (13, (.bool true))]) ⟨(congrArg some e4), (congrArg some d21), trivial⟩ ?_
    refine dg_on rfl rfl rfl rfl (ow_load (R := RInt) rfl rfl ha4 (Tryd.sizeOf3 _) (Tryd.isAgg3 _) fun v14 hv14 => ?_)
    obtain rfl := vint_eq hv14
    exact ⟨BX.refl _ _, rfl⟩
   ·
    intro w20 D hS14 hd14
    have hl20 := Le.no M hS14
    have hC20 := hC1.no hS14
    have hd14 : PEq (.bool true) (D 10) w20 ∧ True := hd14
    obtain ⟨d22, -⟩ := hd14
    refine dg_sub (E' := [(13, (.bool true)), (1, (.pointer (some p1)))]) ⟨(congrArg some d22), rfl, trivial⟩ ?_
    refine dg_on rfl rfl rfl rfl (ow_fieldAddr rfl rfl Tryd.underlying31 rfl (Tryd.sizeOf3 _) ?_)
    exact ⟨BX.refl _ _, ⟨_, rfl, (ARep.mono hl20 (hp1.fld fld_Test_Field))⟩⟩
   ·
    intro w21 D hS15 hd15
    have hl21 := Le.no M hS15
    have hC21 := hC1.no hS15
    have hd15 : PA RInt M a_t.Field (D 13) w21 ∧ PEq (.bool true) (D 10) w21 ∧ True := hd15
    obtain ⟨d23, d24, -⟩ := hd15
    obtain ⟨p6, e5, ha5⟩ := d23
    refine dg_sub (E' := [(16, (.pointer (some p6))), (13, (.bool true))]) ⟨(congrArg some e5), (congrArg some d24), trivial⟩ ?_
    refine dg_on rfl rfl rfl rfl (ow_load (R := RInt) rfl rfl ha5 (Tryd.sizeOf3 _) (Tryd.isAgg3 _) fun v15 hv15 => ?_)
    obtain rfl := vint_eq hv15
    exact ⟨BX.refl _ _, rfl⟩
   ·
    intro w22 D hS16 hd16
    have hl22 := Le.no M hS16
    have hC22 := hC1.no hS16
    have hd16 : PEq (.int .i64 a_t.Field) (D 14) w22 ∧ PEq (.bool true) (D 10) w22 ∧ PEq (.bool true) (D 10) w22 ∧ True := hd16
    obtain ⟨d25, d26, d27, -⟩ := hd16
    refine dg_sub (E' := [(17, (.int .i64 a_t.Field)), (13, (.bool true))]) ⟨(congrArg some d25), (congrArg some d26), trivial⟩ ?_
    refine dg_on rfl rfl rfl rfl (ow_call rfl rfl Tryd.call81 (w_spec_FieldTop (hG.mono (hl1.trans hl22)) hC22.old hx3) fun v16 w23 hv16 => ?_)
    obtain ⟨hv16, hb7⟩ := hv16
    have hl23 := Le.no M hb7
    have hC23 := hC22.no hb7
    obtain rfl := vint_eq hv16
    exact ⟨hb7, rfl⟩
   ·
    intro w24 D hS17 hd17
    have hd17 : PA RInt M a_t.Field (D 0) w24 ∧ PEq (.int .i64 a_t.Field) (D 1) w24 ∧ PEq (.bool true) (D 2) w24 ∧ PEq (.bool true) (D 3) w24 ∧ PA RInt M a_t.Lo (D 4) w24 ∧ PEq (.int .i64 a_t.Lo) (D 5) w24 ∧ PA RInt M a_t.Hi (D 6) w24 ∧ PEq (.int .i64 a_t.Hi) (D 7) w24 ∧ PEq (.bool true) (D 8) w24 ∧ PEq (.bool true) (D 9) w24 ∧ PEq (.bool true) (D 10) w24 ∧ PA RInt M a_t.Hi (D 11) w24 ∧ PEq (.int .i64 a_t.Hi) (D 12) w24 ∧ PA RInt M a_t.Field (D 13) w24 ∧ PEq (.int .i64 a_t.Field) (D 14) w24 ∧ PEq (.int .i64 x3) (D 15) w24 ∧ True := hd17
    obtain ⟨-, -, -, -, -, -, -, -, -, -, d38, -, d40, -, -, d43, -⟩ := hd17
    have hl24 := Le.no M hS17
    have hC24 := hC1.no hS17
    refine lw_sub (E' := [(13, (.bool true)), (15, (.int .i64 a_t.Hi)), (18, (.int .i64 x3)), (1, (.pointer (some p1))), (2, (.bool false))]) ⟨(congrArg some d38), (congrArg some d40), (congrArg some d43), rfl, rfl, trivial⟩ ?_
    refine lw_on rfl rfl rfl rfl rfl rfl (ow_leq rfl rfl rfl fun bb1 hbb1 => ?_)
    refine lw_op rfl rfl rfl (ow_pickT rfl rfl rfl ?_)
    refine lw_op rfl rfl rfl (ow_assign rfl rfl ?_)
    refine lw_nil (ew_then (cw_ret ?_))
    obtain rfl := Option.some.inj h
    exact ew_ret (res1 rfl (.tmp rfl)) ⟨_, rfl, ((vbool_of hbb1)), hC24.bx⟩
  ·
   subst hc2
   refine cw_sub (E' := [(1, (.pointer (some p1))), (2, (.bool false))]) ⟨rfl, rfl, trivial⟩ ?_
   refine cw_drawQ 16 [PA RInt M a_t.Field, PEq (.int .i64 a_t.Field), PEq (.bool true), PEq (.bool true), PA RInt M a_t.Lo, PEq (.int .i64 a_t.Lo), PA RInt M a_t.Hi, PEq (.int .i64 a_t.Hi), PEq (.bool false), PEq (.bool false), PEq (.bool false), PEq undef, PEq undef, PEq undef, PEq undef, PEq undef] (by kernel_rfl) rfl (by kernel_rfl) ⟨PA.mono _ _ _, PEq.mono _, PEq.mono _, PEq.mono _, PA.mono _ _ _, PEq.mono _, PA.mono _ _ _, PEq.mono _, PEq.mono _, PEq.mono _, PEq.mono _, PEq.mono _, PEq.mono _, PEq.mono _, PEq.mono _, PEq.mono _, trivial⟩ ⟨?_, ?_, ?_, ?_, ?_, ?_, ?_, ?_, ?_, ?_, ?_, ?_, ?_, ?_, ?_, ?_, trivial⟩ ?_
   ·
    intro w25 D hS18 hd18
    have hl25 := Le.no M hS18
    have hC25 := hC1.no hS18
    refine dg_sub (E' := [(1, (.pointer (some p1)))]) ⟨rfl, trivial⟩ ?_
    refine dg_plain rfl (ow_fieldAddr rfl rfl Tryd.underlying31 rfl (Tryd.sizeOf3 _) ?_)
    exact ⟨BX.refl _ _, ⟨_, rfl, (ARep.mono hl25 (hp1.fld fld_Test_Field))⟩⟩
   ·
    intro w26 D hS19 hd19
    have hl26 := Le.no M hS19
    have hC26 := hC1.no hS19
    have hd19 : PA RInt M a_t.Field (D 0) w26 ∧ True := hd19
    obtain ⟨d44, -⟩ := hd19
    obtain ⟨p7, e6, ha6⟩ := d44
    refine dg_sub (E' := [(3, (.pointer (some p7)))]) ⟨(congrArg some e6), trivial⟩ ?_
    refine dg_plain rfl (ow_load (R := RInt) rfl rfl ha6 (Tryd.sizeOf3 _) (Tryd.isAgg3 _) fun v17 hv17 => ?_)
    obtain rfl := vint_eq hv17
    exact ⟨BX.refl _ _, rfl⟩
   ·
    intro w27 D hS20 hd20
    have hl27 := Le.no M hS20
    have hC27 := hC1.no hS20
    have hd20 : PEq (.int .i64 a_t.Field) (D 1) w27 ∧ True := hd20
    obtain ⟨d45, -⟩ := hd20
    refine dg_sub (E' := [(4, (.int .i64 a_t.Field))]) ⟨(congrArg some d45), trivial⟩ ?_
    refine dg_plain rfl (ow_call rfl rfl Tryd.call82 (w_spec_l1In (hG.mono (hl1.trans hl27)) hC27.old hx1) fun v18 w28 hv18 => ?_)
    obtain ⟨hv18, hb8⟩ := hv18
    have hl28 := Le.no M hb8
    have hC28 := hC27.no hb8
    obtain rfl := vbool_eq hv18
    exact ⟨hb8, rfl⟩
   ·
    intro w29 D hS21 hd21
    have hl29 := Le.no M hS21
    have hC29 := hC1.no hS21
    have hd21 : PEq (.bool true) (D 2) w29 ∧ PEq (.bool true) (D 2) w29 ∧ True := hd21
    obtain ⟨d46, d47, -⟩ := hd21
    refine dg_sub (E' := [(5, (.bool true))]) ⟨(congrArg some d46), trivial⟩ ?_
    refine dg_plain rfl (ow_move rfl rfl ?_)
    exact ⟨BX.refl _ _, rfl⟩
   ·
    intro w30 D hS22 hd22
    have hl30 := Le.no M hS22
    have hC30 := hC1.no hS22
    have hd22 : PEq (.bool true) (D 3) w30 ∧ True := hd22
    obtain ⟨d48, -⟩ := hd22
    refine dg_sub (E' := [(6, (.bool true)), (1, (.pointer (some p1)))]) ⟨(congrArg some d48), rfl, trivial⟩ ?_
    refine dg_on rfl rfl rfl rfl (ow_fieldAddr rfl rfl Tryd.underlying31 rfl (Tryd.sizeOf3 _) ?_)
    exact ⟨BX.refl _ _, ⟨_, rfl, (ARep.mono hl30 (hp1.fld fld_Test_Lo))⟩⟩
   ·
    intro w31 D hS23 hd23
    have hl31 := Le.no M hS23
    have hC31 := hC1.no hS23
    have hd23 : PA RInt M a_t.Lo (D 4) w31 ∧ PEq (.bool true) (D 3) w31 ∧ True := hd23
    obtain ⟨d49, d50, -⟩ := hd23
    obtain ⟨p8, e7, ha7⟩ := d49
    refine dg_sub (E' := [(7, (.pointer (some p8))), (6, (.bool true))]) ⟨(congrArg some e7), (congrArg some d50), trivial⟩ ?_
    refine dg_on rfl rfl rfl rfl (ow_load (R := RInt) rfl rfl ha7 (Tryd.sizeOf3 _) (Tryd.isAgg3 _) fun v19 hv19 => ?_)
    obtain rfl := vint_eq hv19
    exact ⟨BX.refl _ _, rfl⟩
   ·
    intro w32 D hS24 hd24
    have hl32 := Le.no M hS24
    have hC32 := hC1.no hS24
    have hd24 : PEq (.bool true) (D 3) w32 ∧ True := hd24
    obtain ⟨d51, -⟩ := hd24
    refine dg_sub (E' := [(6, (.bool true)), (1, (.pointer (some p1)))]) ⟨(congrArg some d51), rfl, trivial⟩ ?_
    refine dg_on rfl rfl rfl rfl (ow_fieldAddr rfl rfl Tryd.underlying31 rfl (Tryd.sizeOf3 _) ?_)
    exact ⟨BX.refl _ _, ⟨_, rfl, (ARep.mono hl32 (hp1.fld fld_Test_Hi))⟩⟩
   ·
    intro w33 D hS25 hd25
    have hl33 := Le.no M hS25
    have hC33 := hC1.no hS25
    have hd25 : PA RInt M a_t.Hi (D 6) w33 ∧ PEq (.bool true) (D 3) w33 ∧ True := hd25
    obtain ⟨d52, d53, -⟩ := hd25
    obtain ⟨p9, e8, ha8⟩ := d52
    refine dg_sub (E' := [(9, (.pointer (some p9))), (6, (.bool true))]) ⟨(congrArg some e8), (congrArg some d53), trivial⟩ ?_
    refine dg_on rfl rfl rfl rfl (ow_load (R := RInt) rfl rfl ha8 (Tryd.sizeOf3 _) (Tryd.isAgg3 _) fun v20 hv20 => ?_)
    obtain rfl := vint_eq hv20
    exact ⟨BX.refl _ _, rfl⟩
   ·
    intro w34 D hS26 hd26
    have hl34 := Le.no M hS26
    have hC34 := hC1.no hS26
    have hd26 : PEq (.int .i64 a_t.Lo) (D 5) w34 ∧ PEq (.int .i64 a_t.Hi) (D 7) w34 ∧ PEq (.bool true) (D 3) w34 ∧ PEq (.bool true) (D 3) w34 ∧ True := hd26
    obtain ⟨d54, d55, d56, d57, -⟩ := hd26
    refine dg_sub (E' := [(8, (.int .i64 a_t.Lo)), (10, (.int .i64 a_t.Hi)), (6, (.bool true))]) ⟨(congrArg some d54), (congrArg some d55), (congrArg some d56), trivial⟩ ?_
    refine dg_on rfl rfl rfl rfl (ow_call rfl rfl Tryd.call82 (w_spec_l1In (hG.mono (hl1.trans hl34)) hC34.old hx2) fun v21 w35 hv21 => ?_)
    obtain ⟨hv21, hb9⟩ := hv21
    have hl35 := Le.no M hb9
    have hC35 := hC34.no hb9
    obtain rfl := vbool_eq hv21
    exact ⟨hb9, rfl⟩
   ·
    intro w36 D hS27 hd27
    have hl36 := Le.no M hS27
    have hC36 := hC1.no hS27
    have hd27 : PEq (.bool true) (D 3) w36 ∧ PEq (.bool false) (D 8) w36 ∧ True := hd27
    obtain ⟨d58, d59, -⟩ := hd27
    refine dg_sub (E' := [(6, (.bool true)), (11, (.bool false))]) ⟨(congrArg some d58), (congrArg some d59), trivial⟩ ?_
    refine dg_plain rfl (ow_pickT rfl rfl rfl ?_)
    exact ⟨BX.refl _ _, rfl⟩
   ·
    intro w37 D hS28 hd28
    have hl37 := Le.no M hS28
    have hC37 := hC1.no hS28
    have hd28 : PEq (.bool false) (D 9) w37 ∧ PEq (.bool false) (D 8) w37 ∧ True := hd28
    obtain ⟨d60, d61, -⟩ := hd28
    refine dg_sub (E' := [(12, (.bool false))]) ⟨(congrArg some d60), trivial⟩ ?_
    refine dg_plain rfl (ow_move rfl rfl ?_)
    exact ⟨BX.refl _ _, rfl⟩
   ·
    intro w38 D hS29 hd29
    have hl38 := Le.no M hS29
    have hC38 := hC1.no hS29
    have hd29 : PEq (.bool false) (D 10) w38 ∧ True := hd29
    obtain ⟨d62, -⟩ := hd29
    refine dg_sub (E' := [(13, (.bool false)), (1, (.pointer (some p1)))]) ⟨(congrArg some d62), rfl, trivial⟩ ?_
    exact dg_off rfl rfl rfl rfl ⟨BX.refl _ _, rfl⟩
   ·
    intro w39 D hS30 hd30
    have hl39 := Le.no M hS30
    have hC39 := hC1.no hS30
    have hd30 : PEq undef (D 11) w39 ∧ PEq (.bool false) (D 10) w39 ∧ True := hd30
    obtain ⟨d63, d64, -⟩ := hd30
    refine dg_sub (E' := [(14, undef), (13, (.bool false))]) ⟨(congrArg some d63), (congrArg some d64), trivial⟩ ?_
    exact dg_off rfl rfl rfl rfl ⟨BX.refl _ _, rfl⟩
   ·
    intro w40 D hS31 hd31
    have hl40 := Le.no M hS31
    have hC40 := hC1.no hS31
    have hd31 : PEq (.bool false) (D 10) w40 ∧ True := hd31
    obtain ⟨d65, -⟩ := hd31
    refine dg_sub (E' := [(13, (.bool false)), (1, (.pointer (some p1)))]) ⟨(congrArg some d65), rfl, trivial⟩ ?_
    exact dg_off rfl rfl rfl rfl ⟨BX.refl _ _, rfl⟩
   ·
    intro w41 D hS32 hd32
    have hl41 := Le.no M hS32
    have hC41 := hC1.no hS32
    have hd32 : PEq undef (D 13) w41 ∧ PEq (.bool false) (D 10) w41 ∧ True := hd32
    obtain ⟨d66, d67, -⟩ := hd32
    refine dg_sub (E' := [(16, undef), (13, (.bool false))]) ⟨(congrArg some d66), (congrArg some d67), trivial⟩ ?_
    exact dg_off rfl rfl rfl rfl ⟨BX.refl _ _, rfl⟩
   ·
    intro w42 D hS33 hd33
    have hl42 := Le.no M hS33
    have hC42 := hC1.no hS33
    have hd33 : PEq undef (D 14) w42 ∧ PEq (.bool false) (D 10) w42 ∧ PEq (.bool false) (D 10) w42 ∧ True := hd33
    obtain ⟨d68, d69, d70, -⟩ := hd33
    refine dg_sub (E' := [(17, undef), (13, (.bool false))]) ⟨(congrArg some d68), (congrArg some d69), trivial⟩ ?_
    exact dg_off rfl rfl rfl rfl ⟨BX.refl _ _, rfl⟩
   ·
    intro w43 D hS34 hd34
    have hd34 : PA RInt M a_t.Field (D 0) w43 ∧ PEq (.int .i64 a_t.Field) (D 1) w43 ∧ PEq (.bool true) (D 2) w43 ∧ PEq (.bool true) (D 3) w43 ∧ PA RInt M a_t.Lo (D 4) w43 ∧ PEq (.int .i64 a_t.Lo) (D 5) w43 ∧ PA RInt M a_t.Hi (D 6) w43 ∧ PEq (.int .i64 a_t.Hi) (D 7) w43 ∧ PEq (.bool false) (D 8) w43 ∧ PEq (.bool false) (D 9) w43 ∧ PEq (.bool false) (D 10) w43 ∧ PEq undef (D 11) w43 ∧ PEq undef (D 12) w43 ∧ PEq undef (D 13) w43 ∧ PEq undef (D 14) w43 ∧ PEq undef (D 15) w43 ∧ True := hd34
    obtain ⟨-, -, -, -, -, -, -, -, -, -, d81, -, d83, -, -, d86, -⟩ := hd34
    have hl43 := Le.no M hS34
    have hC43 := hC1.no hS34
    refine lw_sub (E' := [(13, (.bool false)), (15, undef), (18, undef), (1, (.pointer (some p1))), (2, (.bool false))]) ⟨(congrArg some d81), (congrArg some d83), (congrArg some d86), rfl, rfl, trivial⟩ ?_
    refine lw_off rfl rfl rfl rfl rfl rfl ?_
    refine lw_op rfl rfl rfl (ow_pickF rfl rfl rfl ?_)
    refine lw_op rfl rfl rfl (ow_assign rfl rfl ?_)
    refine lw_nil (ew_then (cw_ret ?_))
    obtain rfl := Option.some.inj h
    exact ew_ret (res1 rfl (.tmp rfl)) ⟨_, rfl, ((vbool _)), hC43.bx⟩
 ·
  subst hc1
  refine cw_sub (E' := [(1, (.pointer (some p1))), (2, (.bool false))]) ⟨rfl, rfl, trivial⟩ ?_
  refine cw_drawQ 16 [PA RInt M a_t.Field, PEq (.int .i64 a_t.Field), PEq (.bool false), PEq (.bool false), PEq undef, PEq undef, PEq undef, PEq undef, PEq undef, PEq (.bool false), PEq (.bool false), PEq undef, PEq undef, PEq undef, PEq undef, PEq undef] (by kernel_rfl) rfl (by kernel_rfl) ⟨PA.mono _ _ _, PEq.mono _, PEq.mono _, PEq.mono _, PEq.mono _, PEq.mono _, PEq.mono _, PEq.mono _, PEq.mono _, PEq.mono _, PEq.mono _, PEq.mono _, PEq.mono _, PEq.mono _, PEq.mono _, PEq.mono _, trivial⟩ ⟨?_, ?_, ?_, ?_, ?_, ?_, ?_, ?_, ?_, ?_, ?_, ?_, ?_, ?_, ?_, ?_, trivial⟩ ?_
  ·
   intro w44 D hS35 hd35
   have hl44 := Le.no M hS35
   have hC44 := hC1.no hS35
   refine dg_sub (E' := [(1, (.pointer (some p1)))]) ⟨rfl, trivial⟩ ?_
   refine dg_plain rfl (ow_fieldAddr rfl rfl Tryd.underlying31 rfl (Tryd.sizeOf3 _) ?_)
   exact ⟨BX.refl _ _, ⟨_, rfl, (ARep.mono hl44 (hp1.fld fld_Test_Field))⟩⟩
  ·
   intro w45 D hS36 hd36
   have hl45 := Le.no M hS36
   have hC45 := hC1.no hS36
   have hd36 : PA RInt M a_t.Field (D 0) w45 ∧ True := hd36
   obtain ⟨d87, -⟩ := hd36
   obtain ⟨p10, e9, ha9⟩ := d87
   refine dg_sub (E' := [(3, (.pointer (some p10)))]) ⟨(congrArg some e9), trivial⟩ ?_
   refine dg_plain rfl (ow_load (R := RInt) rfl rfl ha9 (Tryd.sizeOf3 _) (Tryd.isAgg3 _) fun v22 hv22 => ?_)
   obtain rfl := vint_eq hv22
   exact ⟨BX.refl _ _, rfl⟩
  ·
   intro w46 D hS37 hd37
   have hl46 := Le.no M hS37
   have hC46 := hC1.no hS37
   have hd37 : PEq (.int .i64 a_t.Field) (D 1) w46 ∧ True := hd37
   obtain ⟨d88, -⟩ := hd37
   refine dg_sub (E' := [(4, (.int .i64 a_t.Field))]) ⟨(congrArg some d88), trivial⟩ ?_
   refine dg_plain rfl (ow_call rfl rfl Tryd.call82 (w_spec_l1In (hG.mono (hl1.trans hl46)) hC46.old hx1) fun v23 w47 hv23 => ?_)
   obtain ⟨hv23, hb10⟩ := hv23
   have hl47 := Le.no M hb10
   have hC47 := hC46.no hb10
   obtain rfl := vbool_eq hv23
   exact ⟨hb10, rfl⟩
  ·
   intro w48 D hS38 hd38
   have hl48 := Le.no M hS38
   have hC48 := hC1.no hS38
   have hd38 : PEq (.bool false) (D 2) w48 ∧ PEq (.bool false) (D 2) w48 ∧ True := hd38
   obtain ⟨d89, d90, -⟩ := hd38
   refine dg_sub (E' := [(5, (.bool false))]) ⟨(congrArg some d89), trivial⟩ ?_
   refine dg_plain rfl (ow_move rfl rfl ?_)
   exact ⟨BX.refl _ _, rfl⟩
  ·
   intro w49 D hS39 hd39
   have hl49 := Le.no M hS39
   have hC49 := hC1.no hS39
   have hd39 : PEq (.bool false) (D 3) w49 ∧ True := hd39
   obtain ⟨d91, -⟩ := hd39
   refine dg_sub (E' := [(6, (.bool false)), (1, (.pointer (some p1)))]) ⟨(congrArg some d91), rfl, trivial⟩ ?_
   exact dg_off rfl rfl rfl rfl ⟨BX.refl _ _, rfl⟩
  ·
   intro w50 D hS40 hd40
   have hl50 := Le.no M hS40
   have hC50 := hC1.no hS40
   have hd40 : PEq undef (D 4) w50 ∧ PEq (.bool false) (D 3) w50 ∧ True := hd40
   obtain ⟨d92, d93, -⟩ := hd40
   refine dg_sub (E' := [(7, undef), (6, (.bool false))]) ⟨(congrArg some d92), (congrArg some d93), trivial⟩ ?_
   exact dg_off rfl rfl rfl rfl ⟨BX.refl _ _, rfl⟩
  ·
   intro w51 D hS41 hd41
   have hl51 := Le.no M hS41
   have hC51 := hC1.no hS41
   have hd41 : PEq (.bool false) (D 3) w51 ∧ True := hd41
   obtain ⟨d94, -⟩ := hd41
   refine dg_sub (E' := [(6, (.bool false)), (1, (.pointer (some p1)))]) ⟨(congrArg some d94), rfl, trivial⟩ ?_
   exact dg_off rfl rfl rfl rfl ⟨BX.refl _ _, rfl⟩
  ·
   intro w52 D hS42 hd42
   have hl52 := Le.no M hS42
   have hC52 := hC1.no hS42
   have hd42 : PEq undef (D 6) w52 ∧ PEq (.bool false) (D 3) w52 ∧ True := hd42
   obtain ⟨d95, d96, -⟩ := hd42
   refine dg_sub (E' := [(9, undef), (6, (.bool false))]) ⟨(congrArg some d95), (congrArg some d96), trivial⟩ ?_
   exact dg_off rfl rfl rfl rfl ⟨BX.refl _ _, rfl⟩
  ·
   intro w53 D hS43 hd43
   have hl53 := Le.no M hS43
   have hC53 := hC1.no hS43
   have hd43 : PEq undef (D 5) w53 ∧ PEq undef (D 7) w53 ∧ PEq (.bool false) (D 3) w53 ∧ PEq (.bool false) (D 3) w53 ∧ True := hd43
   obtain ⟨d97, d98, d99, d100, -⟩ := hd43
   refine dg_sub (E' := [(8, undef), (10, undef), (6, (.bool false))]) ⟨(congrArg some d97), (congrArg some d98), (congrArg some d99), trivial⟩ ?_
   exact dg_off rfl rfl rfl rfl ⟨BX.refl _ _, rfl⟩
  ·
   intro w54 D hS44 hd44
   have hl54 := Le.no M hS44
   have hC54 := hC1.no hS44
   have hd44 : PEq (.bool false) (D 3) w54 ∧ PEq undef (D 8) w54 ∧ True := hd44
   obtain ⟨d101, d102, -⟩ := hd44
   refine dg_sub (E' := [(6, (.bool false)), (11, undef)]) ⟨(congrArg some d101), (congrArg some d102), trivial⟩ ?_
   refine dg_plain rfl (ow_pickF rfl rfl rfl ?_)
   exact ⟨BX.refl _ _, rfl⟩
  ·
   intro w55 D hS45 hd45
   have hl55 := Le.no M hS45
   have hC55 := hC1.no hS45
   have hd45 : PEq (.bool false) (D 9) w55 ∧ PEq undef (D 8) w55 ∧ True := hd45
   obtain ⟨d103, d104, -⟩ := hd45
   refine dg_sub (E' := [(12, (.bool false))]) ⟨(congrArg some d103), trivial⟩ ?_
   refine dg_plain rfl (ow_move rfl rfl ?_)
   exact ⟨BX.refl _ _, rfl⟩
  ·
   intro w56 D hS46 hd46
   have hl56 := Le.no M hS46
   have hC56 := hC1.no hS46
   have hd46 : PEq (.bool false) (D 10) w56 ∧ True := hd46
   obtain ⟨d105, -⟩ := hd46
   refine dg_sub (E' := [(13, (.bool false)), (1, (.pointer (some p1)))]) ⟨(congrArg some d105), rfl, trivial⟩ ?_
   exact dg_off rfl rfl rfl rfl ⟨BX.refl _ _, rfl⟩
  ·
   intro w57 D hS47 hd47
   have hl57 := Le.no M hS47
   have hC57 := hC1.no hS47
   have hd47 : PEq undef (D 11) w57 ∧ PEq (.bool false) (D 10) w57 ∧ True := hd47
   obtain ⟨d106, d107, -⟩ := hd47
   refine dg_sub (E' := [(14, undef), (13, (.bool false))]) ⟨(congrArg some d106), (congrArg some d107), trivial⟩ ?_
   exact dg_off rfl rfl rfl rfl ⟨BX.refl _ _, rfl⟩
  ·
   intro w58 D hS48 hd48
   have hl58 := Le.no M hS48
   have hC58 := hC1.no hS48
   have hd48 : PEq (.bool false) (D 10) w58 ∧ True := hd48
   obtain ⟨d108, -⟩ := hd48
   refine dg_sub (E' := [(13, (.bool false)), (1, (.pointer (some p1)))]) ⟨(congrArg some d108), rfl, trivial⟩ ?_
   exact dg_off rfl rfl rfl rfl ⟨BX.refl _ _, rfl⟩
  ·
   intro w59 D hS49 hd49
   have hl59 := Le.no M hS49
   have hC59 := hC1.no hS49
   have hd49 : PEq undef (D 13) w59 ∧ PEq (.bool false) (D 10) w59 ∧ True := hd49
   obtain ⟨d109, d110, -⟩ := hd49
   refine dg_sub (E' := [(16, undef), (13, (.bool false))]) ⟨(congrArg some d109), (congrArg some d110), trivial⟩ ?_
   exact dg_off rfl rfl rfl rfl ⟨BX.refl _ _, rfl⟩
  ·
   intro w60 D hS50 hd50
   have hl60 := Le.no M hS50
   have hC60 := hC1.no hS50
   have hd50 : PEq undef (D 14) w60 ∧ PEq (.bool false) (D 10) w60 ∧ PEq (.bool false) (D 10) w60 ∧ True := hd50
   obtain ⟨d111, d112, d113, -⟩ := hd50
   refine dg_sub (E' := [(17, undef), (13, (.bool false))]) ⟨(congrArg some d111), (congrArg some d112), trivial⟩ ?_
   exact dg_off rfl rfl rfl rfl ⟨BX.refl _ _, rfl⟩
  ·
   intro w61 D hS51 hd51
   have hd51 : PA RInt M a_t.Field (D 0) w61 ∧ PEq (.int .i64 a_t.Field) (D 1) w61 ∧ PEq (.bool false) (D 2) w61 ∧ PEq (.bool false) (D 3) w61 ∧ PEq undef (D 4) w61 ∧ PEq undef (D 5) w61 ∧ PEq undef (D 6) w61 ∧ PEq undef (D 7) w61 ∧ PEq undef (D 8) w61 ∧ PEq (.bool false) (D 9) w61 ∧ PEq (.bool false) (D 10) w61 ∧ PEq undef (D 11) w61 ∧ PEq undef (D 12) w61 ∧ PEq undef (D 13) w61 ∧ PEq undef (D 14) w61 ∧ PEq undef (D 15) w61 ∧ True := hd51
   obtain ⟨-, -, -, -, -, -, -, -, -, -, d124, -, d126, -, -, d129, -⟩ := hd51
   have hl61 := Le.no M hS51
   have hC61 := hC1.no hS51
   refine lw_sub (E' := [(13, (.bool false)), (15, undef), (18, undef), (1, (.pointer (some p1))), (2, (.bool false))]) ⟨(congrArg some d124), (congrArg some d126), (congrArg some d129), rfl, rfl, trivial⟩ ?_
   refine lw_off rfl rfl rfl rfl rfl rfl ?_
   refine lw_op rfl rfl rfl (ow_pickF rfl rfl rfl ?_)
   refine lw_op rfl rfl rfl (ow_assign rfl rfl ?_)
   refine lw_nil (ew_then (cw_ret ?_))
   obtain rfl := Option.some.inj h
   exact ew_ret (res1 rfl (.tmp rfl)) ⟨_, rfl, ((vbool _)), hC61.bx⟩

theorem w_spec_TestsValid {w : World} {M : Nat → Prop} (hG : ARep (RArr 4 RShape) w M shapes ⟨0, 0, none⟩) (hO : ∀ b, M b → b < w.heap.size) {v0p : Value} {a_list : List Test} (h0 : VRep (RSlice RTest) w M a_list v0p) {r : Bool} (h : F.spec_TestsValid a_list = some r) :
  Calls Tryd.prog 26 [v0p].toArray w fun e w' => ∃ v, e = .returned v ∧ VRep RBool w' M r v ∧ BX No w w' := by
 have hC : Cx No w M w M := Cx.start hO (fun _ e => e.elim)
 refine walk (N := 19) Tryd.func26 rfl Tryd.ntmps26 rfl ?_
 refine cw_seq (cw_region (lw_op rfl rfl rfl (ow_assign rfl rfl ?_)))
 refine lw_nil (ew_then (cw_seq (cw_seq (cw_region (lw_op rfl rfl rfl (ow_assign rfl rfl ?_))))))
 refine lw_nil (ew_then ?_)
 replace h := bind_some h
 obtain ⟨lr1, hlr1, h⟩ := h
 refine cw_for hlr1 (fun s a w' => ∃ (M' : Nat → Prop), Fits 19 [(0, v0p), (3, (.int .i64 s))] a ∧ Le w M w' M' ∧ Cx No w M w' M') ?_ ?_ ?_
 ·
  intro a ha
  exact ⟨M, ha.sub ⟨rfl, rfl, trivial⟩, Le.refl _ _, hC⟩
 ·
  rintro k1 a w1 sr1 ⟨M1, hF1, hl1, hC1⟩ hb1 hR1
  refine cw_at (E := [(0, v0p), (3, (.int .i64 k1))]) hF1 ?_
  refine cw_seq (cw_seq (cw_region (lw_op rfl rfl rfl (ow_move rfl rfl ?_))))
  refine lw_op rfl rfl rfl (ow_move rfl rfl ?_)
  refine lw_op rfl rfl rfl (ow_len rfl rfl (VRep.mono hl1 h0) Tryd.underlying23 rfl ?_)
  refine lw_op rfl rfl rfl (ow_lss rfl rfl rfl fun bb1 hbb1 => ?_)
  refine lw_nil (ew_then ?_)
  replace hb1 := cond_some hb1
  rcases hb1 with ⟨hc1, hb1⟩ | ⟨hc1, hb1⟩
  ·
   obtain rfl := hbb1.trans hc1
   refine cw_true rfl ?_
   refine cw_skip (ew_then (cw_seq (cw_block ?_)))
   refine cw_seq (cw_region (lw_op rfl rfl rfl (ow_move rfl rfl ?_)))
   refine lw_op rfl rfl rfl (ow_move rfl rfl ?_)
   replace hb1 := bind_some hb1
   obtain ⟨x1, hx1, hb1⟩ := hb1
   refine lw_op rfl rfl rfl (ow_indexSlice (R := RTest) rfl rfl rfl (VRep.mono hl1 h0) Tryd.underlying23 (Tryd.sizeOf31 _) hx1 fun p1 hp1 => ?_)
   refine lw_op rfl rfl rfl (ow_load (R := RTest) rfl rfl hp1 (Tryd.sizeOf31 _) (Tryd.isAgg31 _) fun v2 hv2 => ?_)
   replace hb1 := bind_some hb1
   obtain ⟨x2, hx2, hb1⟩ := hb1
   refine lw_op rfl rfl rfl (ow_call rfl rfl Tryd.call64 (w_spec_TestValid (hG.mono hl1) hC1.old hv2 hx2) fun v3 w2 hv3 => ?_)
   obtain ⟨hv3, hb2⟩ := hv3
   have hl2 := Le.no M1 hb2
   have hC2 := hC1.no hb2
   obtain rfl := vbool_eq hv3
   refine lw_op rfl rfl rfl (ow_not rfl rfl ?_)
   refine lw_nil (ew_then ?_)
   replace hb1 := cond_some hb1
   rcases hb1 with ⟨hc2, hb1⟩ | ⟨hc2, hb1⟩
   ·
    subst hc2
    refine cw_false rfl ?_
    refine cw_skip (ew_blockN ?_)
    refine ew_then (cw_region (lw_op rfl rfl rfl (ow_move rfl rfl ?_)))
    refine lw_op rfl rfl rfl (ow_add rfl rfl rfl ?_)
    refine lw_op rfl rfl rfl (ow_assign rfl rfl ?_)
    refine lw_nil (ew_nxt (W (k1 + 1)) hb1 fun a ha => ⟨M1, ?_, (hl1.trans hl2), hC2⟩)
    exact ha.sub ⟨rfl, rfl, trivial⟩
   ·
    subst hc2
    refine cw_true rfl ?_
    refine cw_seq (cw_region (lw_op rfl rfl rfl (ow_assign rfl rfl ?_)))
    refine lw_nil (ew_then (cw_ret (ew_blockR ?_)))
    refine ew_thenR (ew_thenR (ew_blockR ?_))
    refine ew_brkR ?_
    refine ew_thenR ?_
    have e1 := hR1 _ (Option.some.inj hb1).symm
    subst e1
    obtain rfl := Option.some.inj h
    exact ew_ret (res1 rfl (.tmp rfl)) ⟨_, rfl, ((vbool _)), hC2.bx⟩
  ·
   obtain rfl := hbb1.trans hc1
   refine cw_false rfl ?_
   refine cw_exit ?_
   refine ew_thenX ?_
   refine ew_thenX ?_
   refine ew_blockX ?_
   refine ew_brk k1 hb1 fun a ha => ⟨M1, ?_, hl1, hC1⟩
   exact ha.sub ⟨rfl, rfl, trivial⟩
 ·
  rintro k2 a w3 hlr2 ⟨M2, hF2, hl3, hC3⟩
  subst hlr2
  refine ew_at (E := [(0, v0p), (3, (.int .i64 k2))]) hF2 ?_
  refine ew_then (cw_seq (cw_region (lw_op rfl rfl rfl (ow_move rfl rfl ?_))))
  refine lw_op rfl rfl rfl (ow_len rfl rfl (VRep.mono hl3 h0) Tryd.underlying23 rfl ?_)
  refine lw_op rfl rfl rfl (ow_leq rfl rfl rfl fun bb2 hbb2 => ?_)
  refine lw_op rfl rfl rfl (ow_assign rfl rfl ?_)
  refine lw_nil (ew_then (cw_ret ?_))
  obtain rfl := Option.some.inj h
  exact ew_ret (res1 rfl (.tmp rfl)) ⟨_, rfl, ((vbool_of hbb2)), hC3.bx⟩


end Go.PF
