/- The walks; no condition. -/
import Derived.Test.YtnleamfkpjnfoaaDoorProg
import Derived.Test.YtnleamfkpjnfoaaDoorWk3
import Derived.Test.YtnleamfkpjnfoaaDoorPFNew
set_option maxRecDepth 100000
set_option maxHeartbeats 4000000
namespace Go.PF
open Go Go.RowKit Go.Proofs

theorem w_laws_FnTestsBox {w : World} {M : Nat → Prop} (hG : ARep (RArr 4 RShape) w M shapes ⟨0, 0, none⟩) (hO : ∀ b, M b → b < w.heap.size) {v0p : Value} {a_code : List Int} (h0 : VRep (RSlice RU8) w M a_code v0p) {v1p : Value} {a_more : List Int} (h1 : VRep (RSlice RU8) w M a_more v1p) {r : Bool} (h : F.laws_FnTestsBox a_code a_more = some r) :
  Calls Tryd.prog 7 [v0p, v1p].toArray w fun e w' => ∃ v, e = .returned v ∧ VRep RBool w' M r v ∧ BX No w w' := by
 have hC : Cx No w M w M := Cx.start hO (fun _ e => e.elim)
 refine walk (N := 51) Tryd.func7 rfl Tryd.ntmps7 rfl ?_
 refine cw_seq (cw_region (lw_op rfl rfl rfl (ow_assign rfl rfl ?_)))
 refine lw_nil (ew_then (cw_seq (cw_seq (cw_region (lw_op rfl rfl rfl (ow_move rfl rfl ?_))))))
 refine lw_op rfl rfl rfl (ow_len rfl rfl h0 Tryd.underlying22 rfl ?_)
 refine lw_op rfl rfl rfl (ow_gtr rfl rfl rfl fun bb1 hbb1 => ?_)
 refine lw_op rfl rfl rfl (ow_move rfl rfl ?_)
 replace h := cond_some h
 rcases h with ⟨hc1, h⟩ | ⟨hc1, h⟩
 ·
  obtain rfl := hbb1.trans hc1
  refine lw_off rfl rfl rfl rfl rfl rfl ?_
  refine lw_off rfl rfl rfl rfl rfl rfl ?_
  refine lw_off rfl rfl rfl rfl rfl rfl ?_
  refine lw_op rfl rfl rfl (ow_pickT rfl rfl rfl ?_)
  refine lw_nil (ew_then (cw_true rfl ?_))
  refine cw_seq (cw_region (lw_op rfl rfl rfl (ow_assign rfl rfl ?_)))
  refine lw_nil (ew_then (cw_ret (ew_thenR ?_)))
  obtain rfl := Option.some.inj h
  exact ew_ret (res1 rfl (.tmp rfl)) ⟨_, rfl, ((vbool _)), hC.bx⟩
 ·
  obtain rfl := hbb1.trans hc1
  refine lw_on rfl rfl rfl rfl rfl rfl (ow_move rfl rfl ?_)
  refine lw_on rfl rfl rfl rfl rfl rfl (ow_len rfl rfl h1 Tryd.underlying22 rfl ?_)
  refine lw_on rfl rfl rfl rfl rfl rfl (ow_gtr rfl rfl rfl fun bb2 hbb2 => ?_)
  refine lw_op rfl rfl rfl (ow_pickF rfl rfl rfl ?_)
  refine lw_nil (ew_then ?_)
  replace h := cond_some h
  rcases h with ⟨hc2, h⟩ | ⟨hc2, h⟩
  ·
   obtain rfl := hbb2.trans hc2
   refine cw_true rfl ?_
   refine cw_seq (cw_region (lw_op rfl rfl rfl (ow_assign rfl rfl ?_)))
   refine lw_nil (ew_then (cw_ret (ew_thenR ?_)))
   obtain rfl := Option.some.inj h
   exact ew_ret (res1 rfl (.tmp rfl)) ⟨_, rfl, ((vbool _)), hC.bx⟩
  ·
   obtain rfl := hbb2.trans hc2
   refine cw_false rfl ?_
   refine cw_skip (ew_then (cw_seq (cw_region (lw_op rfl rfl rfl (ow_move rfl rfl ?_)))))
   replace h := bind_some h
   obtain ⟨x1, hx1, h⟩ := h
   refine lw_op rfl rfl rfl (ow_call rfl rfl Tryd.call15 (w_spec_DrawTestsBox hG hC.old h0 hx1) fun v1 w1 hv1 => ?_)
   obtain ⟨hv1, hb1⟩ := hv1
   have hl1 := Le.no M hb1
   have hC1 := hC.no hb1
   refine lw_op rfl rfl rfl (ow_assign rfl rfl ?_)
   refine lw_nil (ew_then (cw_seq (cw_region (lw_op rfl rfl rfl (ow_move rfl rfl ?_)))))
   replace h := bind_some h
   obtain ⟨x2, hx2, h⟩ := h
   refine lw_op rfl rfl rfl (ow_call rfl rfl Tryd.call16 (w_impl_TestsBox (hG.mono hl1) hC1.old hv1 hx2) fun v2 w2 hv2 => ?_)
   obtain ⟨hv2, hb2⟩ := hv2
   have hl2 := Le.no M hb2
   have hC2 := hC1.no hb2
   refine lw_allocStore (R := RBox) rfl rfl rfl rfl rfl rfl rfl Tryd.zeroValue27 Tryd.sizeOf27 rfl rfl rfl (by simp) hv2 hC2 fun p1 w3 hp1 hb3 hl3 hC3 => ?_
   refine lw_nil (ew_then (cw_seq (cw_seq ?_)))
   replace h := bind_some h
   obtain ⟨x3, hx3, h⟩ := h
   refine cw_sub (E' := [(1, v1p), (4, (.bool false)), (5, v1), (6, (.pointer (some p1)))]) ⟨rfl, rfl, rfl, rfl, trivial⟩ ?_
   refine cw_drawQ 3 [PV RBox M x2, PV (RSlice RTest) M x1, PV RBox M x3] (by kernel_rfl) rfl (by kernel_rfl) ⟨PV.mono _ _ _, PV.mono _ _ _, PV.mono _ _ _, trivial⟩ ⟨?_, ?_, ?_, trivial⟩ ?_
   ·
    intro w5 D hS1 hd1
    have hl5 := Le.no M hS1
    have hC5 := hC3.no hS1
    refine dg_sub (E' := [(6, (.pointer (some p1)))]) ⟨rfl, trivial⟩ ?_
    refine dg_plain rfl (ow_load (R := RBox) rfl rfl (ARep.mono hl5 hp1) (Tryd.sizeOf27 _) (Tryd.isAgg27 _) fun v5 hv5 => ?_)
    exact ⟨BX.refl _ _, hv5⟩
   ·
    intro w6 D hS2 hd2
    have hl6 := Le.no M hS2
    have hC6 := hC3.no hS2
    refine dg_sub (E' := [(5, v1)]) ⟨rfl, trivial⟩ ?_
    refine dg_plain rfl (ow_move rfl rfl ?_)
    exact ⟨BX.refl _ _, (VRep.mono ((hl2.trans hl3).trans hl6) hv1)⟩
   ·
    intro w7 D hS3 hd3
    have hl7 := Le.no M hS3
    have hC7 := hC3.no hS3
    have hd3 : PV (RSlice RTest) M x1 (D 1) w7 ∧ True := hd3
    obtain ⟨d1, -⟩ := hd3
    obtain ⟨v6, hq1⟩ : ∃ v, (D 1) = v := ⟨_, rfl⟩
    rw [hq1] at d1
    refine dg_sub (E' := [(21, v6)]) ⟨(congrArg some hq1), trivial⟩ ?_
    refine dg_plain rfl (ow_call rfl rfl Tryd.call18 (w_spec_TestsBox (hG.mono (((hl1.trans hl2).trans hl3).trans hl7)) hC7.old d1 hx3) fun v7 w8 hv7 => ?_)
    obtain ⟨hv7, hb5⟩ := hv7
    have hl8 := Le.no M hb5
    have hC8 := hC7.no hb5
    exact ⟨hb5, hv7⟩
   ·
    intro w9 D hS4 hd4
    have hd4 : PV RBox M x2 (D 0) w9 ∧ PV (RSlice RTest) M x1 (D 1) w9 ∧ PV RBox M x3 (D 2) w9 ∧ True := hd4
    obtain ⟨d2, -, d4, -⟩ := hd4
    have hl9 := Le.no M hS4
    have hC9 := hC3.no hS4
    obtain ⟨v8, hq2⟩ : ∃ v, (D 0) = v := ⟨_, rfl⟩
    rw [hq2] at d2
    obtain ⟨v9, hq3⟩ : ∃ v, (D 2) = v := ⟨_, rfl⟩
    rw [hq3] at d4
    refine lw_sub (E' := [(20, v8), (22, v9), (1, v1p), (4, (.bool false)), (5, v1), (6, (.pointer (some p1)))]) ⟨(congrArg some hq2), (congrArg some hq3), rfl, rfl, rfl, rfl, trivial⟩ ?_
    replace h := bind_some h
    obtain ⟨x4, hx4, h⟩ := h
    refine lw_op rfl rfl rfl (ow_call rfl rfl Tryd.call17 (w_laws_sameBox (hG.mono (((hl1.trans hl2).trans hl3).trans hl9)) hC9.old d2 d4 hx4) fun v10 w10 hv10 => ?_)
    obtain ⟨hv10, hb6⟩ := hv10
    have hl10 := Le.no M hb6
    have hC10 := hC9.no hb6
    obtain rfl := vbool_eq hv10
    refine lw_op rfl rfl rfl (ow_not rfl rfl ?_)
    refine lw_nil (ew_then ?_)
    replace h := cond_some h
    rcases h with ⟨hc3, h⟩ | ⟨hc3, h⟩
    ·
     subst hc3
     refine cw_false rfl ?_
     refine cw_skip (ew_then (cw_seq (cw_seq (cw_region (lw_op rfl rfl rfl (ow_move rfl rfl ?_))))))
     replace h := bind_some h
     obtain ⟨x5, hx5, h⟩ := h
     refine lw_op rfl rfl rfl (ow_call rfl rfl Tryd.call26 (w_spec_TestsValid (hG.mono ((((hl1.trans hl2).trans hl3).trans hl9).trans hl10)) hC10.old (VRep.mono (((hl2.trans hl3).trans hl9).trans hl10) hv1) hx5) fun v11 w11 hv11 => ?_)
     obtain ⟨hv11, hb7⟩ := hv11
     have hl11 := Le.no M hb7
     have hC11 := hC10.no hb7
     obtain rfl := vbool_eq hv11
     refine lw_op rfl rfl rfl (ow_not rfl rfl ?_)
     refine lw_nil (ew_then ?_)
     replace h := cond_some h
     rcases h with ⟨hc4, h⟩ | ⟨hc4, h⟩
     ·
      subst hc4
      refine cw_false rfl ?_
      refine cw_skip (ew_then (cw_seq (cw_region (lw_op rfl rfl rfl (ow_load (R := RBox) rfl rfl (ARep.mono ((hl9.trans hl10).trans hl11) hp1) (Tryd.sizeOf27 _) (Tryd.isAgg27 _) fun v12 hv12 => ?_)))))
      obtain ⟨A1, c1, rfl, hw1⟩ := open_Box hv12
      refine lw_op rfl rfl rfl (ow_buildSlice (R := RBox) (xs := [x2]) (cs := #[(.slice A1 x2.Sides.length c1)]) (e := 27) rfl rfl (by kernel_rfl) rfl rfl ⟨_, _, rfl, hv12.cells, rfl⟩ hC11 fun p2 w12 hw2 hb8 hl12 hC12 => ?_)
      refine lw_op rfl rfl rfl (ow_move rfl rfl ?_)
      refine lw_op rfl rfl rfl (ow_len rfl rfl (VRep.mono ((((((hl1.trans hl2).trans hl3).trans hl9).trans hl10).trans hl11).trans hl12) h1) Tryd.underlying22 rfl ?_)
      replace h := bind_some h
      obtain ⟨x6, hx6, h⟩ := h
      refine lw_op rfl rfl rfl (ow_call rfl rfl Tryd.call29 (w_laws_probe (hG.mono ((((((hl1.trans hl2).trans hl3).trans hl9).trans hl10).trans hl11).trans hl12)) hC12.old hw2 hx6) fun v13 w13 hv13 => ?_)
      obtain ⟨hv13, hb9⟩ := hv13
      have hl13 := Le.no M hb9
      have hC13 := hC12.no hb9
      refine lw_allocStore (R := RPacket) rfl rfl rfl rfl rfl rfl rfl Tryd.zeroValue45 Tryd.sizeOf45 rfl rfl rfl (by simp) hv13 hC13 fun p3 w14 hp3 hb10 hl14 hC14 => ?_
      refine lw_nil (ew_then (cw_seq ?_))
      replace h := bind_some h
      obtain ⟨x7, hx7, h⟩ := h
      replace h := cond_some h
      rcases h with ⟨hc5, h⟩ | ⟨hc5, h⟩
      ·
       subst hc5
       replace h := bind_some h
       obtain ⟨x8, hx8, h⟩ := h
       refine cw_sub (E' := [(4, (.bool false)), (5, v1), (6, (.pointer (some p1))), (7, (.pointer (some p3)))]) ⟨rfl, rfl, rfl, rfl, trivial⟩ ?_
       refine cw_drawQ 8 [PV RBox M x2, PEq (.bool true), PEq (.bool true), PV RBox M x2, PV RPacket M x6, PEq (.bool x8), PV (RSlice RTest) M x1, PV RPacket M x6] (by kernel_rfl) rfl (by kernel_rfl) ⟨PV.mono _ _ _, PEq.mono _, PEq.mono _, PV.mono _ _ _, PV.mono _ _ _, PEq.mono _, PV.mono _ _ _, PV.mono _ _ _, trivial⟩ ⟨?_, ?_, ?_, ?_, ?_, ?_, ?_, ?_, trivial⟩ ?_
       ·
        intro w17 D hS5 hd5
        have hl17 := Le.no M hS5
        have hC17 := hC14.no hS5
        refine dg_sub (E' := [(6, (.pointer (some p1)))]) ⟨rfl, trivial⟩ ?_
        refine dg_plain rfl (ow_load (R := RBox) rfl rfl (ARep.mono ((((((hl9.trans hl10).trans hl11).trans hl12).trans hl13).trans hl14).trans hl17) hp1) (Tryd.sizeOf27 _) (Tryd.isAgg27 _) fun v20 hv20 => ?_)
        exact ⟨BX.refl _ _, hv20⟩
       ·
        intro w18 D hS6 hd6
        have hl18 := Le.no M hS6
        have hC18 := hC14.no hS6
        have hd6 : PV RBox M x2 (D 0) w18 ∧ True := hd6
        obtain ⟨d5, -⟩ := hd6
        obtain ⟨v21, hq4⟩ : ∃ v, (D 0) = v := ⟨_, rfl⟩
        rw [hq4] at d5
        refine dg_sub (E' := [(40, v21)]) ⟨(congrArg some hq4), trivial⟩ ?_
        refine dg_plain rfl (ow_call rfl rfl Tryd.call30 (w_impl_BoxValid (hG.mono (((((((((hl1.trans hl2).trans hl3).trans hl9).trans hl10).trans hl11).trans hl12).trans hl13).trans hl14).trans hl18)) hC18.old d5 hx7) fun v22 w19 hv22 => ?_)
        obtain ⟨hv22, hb13⟩ := hv22
        have hl19 := Le.no M hb13
        have hC19 := hC18.no hb13
        obtain rfl := vbool_eq hv22
        exact ⟨hb13, rfl⟩
       ·
        intro w20 D hS7 hd7
        have hl20 := Le.no M hS7
        have hC20 := hC14.no hS7
        have hd7 : PEq (.bool true) (D 1) w20 ∧ PEq (.bool true) (D 1) w20 ∧ True := hd7
        obtain ⟨d6, d7, -⟩ := hd7
        refine dg_sub (E' := [(41, (.bool true))]) ⟨(congrArg some d6), trivial⟩ ?_
        refine dg_plain rfl (ow_move rfl rfl ?_)
        exact ⟨BX.refl _ _, rfl⟩
       ·
        intro w21 D hS8 hd8
        have hl21 := Le.no M hS8
        have hC21 := hC14.no hS8
        have hd8 : PEq (.bool true) (D 2) w21 ∧ True := hd8
        obtain ⟨d8, -⟩ := hd8
        refine dg_sub (E' := [(42, (.bool true)), (6, (.pointer (some p1)))]) ⟨(congrArg some d8), rfl, trivial⟩ ?_
        refine dg_on rfl rfl rfl rfl (ow_load (R := RBox) rfl rfl (ARep.mono ((((((hl9.trans hl10).trans hl11).trans hl12).trans hl13).trans hl14).trans hl21) hp1) (Tryd.sizeOf27 _) (Tryd.isAgg27 _) fun v23 hv23 => ?_)
        exact ⟨BX.refl _ _, hv23⟩
       ·
        intro w22 D hS9 hd9
        have hl22 := Le.no M hS9
        have hC22 := hC14.no hS9
        have hd9 : PEq (.bool true) (D 2) w22 ∧ True := hd9
        obtain ⟨d9, -⟩ := hd9
        refine dg_sub (E' := [(42, (.bool true)), (7, (.pointer (some p3)))]) ⟨(congrArg some d9), rfl, trivial⟩ ?_
        refine dg_on rfl rfl rfl rfl (ow_load (R := RPacket) rfl rfl (ARep.mono hl22 hp3) (Tryd.sizeOf45 _) (Tryd.isAgg45 _) fun v24 hv24 => ?_)
        exact ⟨BX.refl _ _, hv24⟩
       ·
        intro w23 D hS10 hd10
        have hl23 := Le.no M hS10
        have hC23 := hC14.no hS10
        have hd10 : PV RBox M x2 (D 3) w23 ∧ PV RPacket M x6 (D 4) w23 ∧ PEq (.bool true) (D 2) w23 ∧ PEq (.bool true) (D 2) w23 ∧ True := hd10
        obtain ⟨d10, d11, d12, d13, -⟩ := hd10
        obtain ⟨v25, hq5⟩ : ∃ v, (D 3) = v := ⟨_, rfl⟩
        rw [hq5] at d10
        obtain ⟨v26, hq6⟩ : ∃ v, (D 4) = v := ⟨_, rfl⟩
        rw [hq6] at d11
        refine dg_sub (E' := [(43, v25), (44, v26), (42, (.bool true))]) ⟨(congrArg some hq5), (congrArg some hq6), (congrArg some d12), trivial⟩ ?_
        refine dg_on rfl rfl rfl rfl (ow_call rfl rfl Tryd.call31 (w_impl_BoxHas (hG.mono (((((((((hl1.trans hl2).trans hl3).trans hl9).trans hl10).trans hl11).trans hl12).trans hl13).trans hl14).trans hl23)) hC23.old d10 d11 hx8) fun v27 w24 hv27 => ?_)
        obtain ⟨hv27, hb14⟩ := hv27
        have hl24 := Le.no M hb14
        have hC24 := hC23.no hb14
        obtain rfl := vbool_eq hv27
        exact ⟨hb14, rfl⟩
       ·
        intro w25 D hS11 hd11
        have hl25 := Le.no M hS11
        have hC25 := hC14.no hS11
        have hd11 : PEq (.bool true) (D 2) w25 ∧ True := hd11
        obtain ⟨d14, -⟩ := hd11
        refine dg_sub (E' := [(42, (.bool true)), (5, v1)]) ⟨(congrArg some d14), rfl, trivial⟩ ?_
        refine dg_on rfl rfl rfl rfl (ow_move rfl rfl ?_)
        exact ⟨BX.refl _ _, (VRep.mono ((((((((hl2.trans hl3).trans hl9).trans hl10).trans hl11).trans hl12).trans hl13).trans hl14).trans hl25) hv1)⟩
       ·
        intro w26 D hS12 hd12
        have hl26 := Le.no M hS12
        have hC26 := hC14.no hS12
        have hd12 : PEq (.bool true) (D 2) w26 ∧ True := hd12
        obtain ⟨d15, -⟩ := hd12
        refine dg_sub (E' := [(42, (.bool true)), (7, (.pointer (some p3)))]) ⟨(congrArg some d15), rfl, trivial⟩ ?_
        refine dg_on rfl rfl rfl rfl (ow_load (R := RPacket) rfl rfl (ARep.mono hl26 hp3) (Tryd.sizeOf45 _) (Tryd.isAgg45 _) fun v28 hv28 => ?_)
        exact ⟨BX.refl _ _, hv28⟩
       ·
        intro w27 D hS13 hd13
        have hd13 : PV RBox M x2 (D 0) w27 ∧ PEq (.bool true) (D 1) w27 ∧ PEq (.bool true) (D 2) w27 ∧ PV RBox M x2 (D 3) w27 ∧ PV RPacket M x6 (D 4) w27 ∧ PEq (.bool x8) (D 5) w27 ∧ PV (RSlice RTest) M x1 (D 6) w27 ∧ PV RPacket M x6 (D 7) w27 ∧ True := hd13
        obtain ⟨-, -, d18, -, -, d21, d22, d23, -⟩ := hd13
        have hl27 := Le.no M hS13
        have hC27 := hC14.no hS13
        obtain ⟨bb3, hq7, hq8⟩ : ∃ b, b = x8 ∧ (D 5) = .bool b := ⟨_, rfl, d21⟩
        obtain ⟨v29, hq9⟩ : ∃ v, (D 6) = v := ⟨_, rfl⟩
        rw [hq9] at d22
        obtain ⟨v30, hq10⟩ : ∃ v, (D 7) = v := ⟨_, rfl⟩
        rw [hq10] at d23
        refine lw_sub (E' := [(42, (.bool true)), (45, (.bool bb3)), (46, v29), (47, v30), (4, (.bool false)), (5, v1), (6, (.pointer (some p1))), (7, (.pointer (some p3)))]) ⟨(congrArg some d18), (congrArg some hq8), (congrArg some hq9), (congrArg some hq10), rfl, rfl, rfl, rfl, trivial⟩ ?_
        replace h := bind_some h
        obtain ⟨x9, hx9, h⟩ := h
        refine lw_on rfl rfl rfl rfl rfl rfl (ow_call rfl rfl Tryd.call32 (w_impl_TestsHold (hG.mono (((((((((hl1.trans hl2).trans hl3).trans hl9).trans hl10).trans hl11).trans hl12).trans hl13).trans hl14).trans hl27)) hC27.old d22 d23 hx9) fun v31 w28 hv31 => ?_)
        obtain ⟨hv31, hb15⟩ := hv31
        have hl28 := Le.no M hb15
        have hC28 := hC27.no hb15
        obtain rfl := vbool_eq hv31
        refine lw_on rfl rfl rfl rfl rfl rfl (ow_eqlB rfl rfl rfl Tryd.underlying4 fun bb4 hbb4 => ?_)
        have hbb4' : bb4 = (x8 == x9) := hbb4.trans (by rw [hq7])
        refine lw_op rfl rfl rfl (ow_pickT rfl rfl rfl ?_)
        refine lw_op rfl rfl rfl (ow_assign rfl rfl ?_)
        refine lw_nil (ew_then (cw_ret ?_))
        obtain rfl := Option.some.inj h
        exact ew_ret (res1 rfl (.tmp rfl)) ⟨_, rfl, ((vbool_of hbb4')), hC28.bx⟩
      ·
       subst hc5
       refine cw_sub (E' := [(4, (.bool false)), (5, v1), (6, (.pointer (some p1))), (7, (.pointer (some p3)))]) ⟨rfl, rfl, rfl, rfl, trivial⟩ ?_
       refine cw_drawQ 8 [PV RBox M x2, PEq (.bool false), PEq (.bool false), PEq undef, PEq undef, PEq undef, PEq undef, PEq undef] (by kernel_rfl) rfl (by kernel_rfl) ⟨PV.mono _ _ _, PEq.mono _, PEq.mono _, PEq.mono _, PEq.mono _, PEq.mono _, PEq.mono _, PEq.mono _, trivial⟩ ⟨?_, ?_, ?_, ?_, ?_, ?_, ?_, ?_, trivial⟩ ?_
       ·
        intro w29 D hS14 hd14
        have hl29 := Le.no M hS14
        have hC29 := hC14.no hS14
        refine dg_sub (E' := [(6, (.pointer (some p1)))]) ⟨rfl, trivial⟩ ?_
        refine dg_plain rfl (ow_load (R := RBox) rfl rfl (ARep.mono ((((((hl9.trans hl10).trans hl11).trans hl12).trans hl13).trans hl14).trans hl29) hp1) (Tryd.sizeOf27 _) (Tryd.isAgg27 _) fun v32 hv32 => ?_)
        exact ⟨BX.refl _ _, hv32⟩
       ·
        intro w30 D hS15 hd15
        have hl30 := Le.no M hS15
        have hC30 := hC14.no hS15
        have hd15 : PV RBox M x2 (D 0) w30 ∧ True := hd15
        obtain ⟨d24, -⟩ := hd15
        obtain ⟨v33, hq11⟩ : ∃ v, (D 0) = v := ⟨_, rfl⟩
        rw [hq11] at d24
        refine dg_sub (E' := [(40, v33)]) ⟨(congrArg some hq11), trivial⟩ ?_
        refine dg_plain rfl (ow_call rfl rfl Tryd.call30 (w_impl_BoxValid (hG.mono (((((((((hl1.trans hl2).trans hl3).trans hl9).trans hl10).trans hl11).trans hl12).trans hl13).trans hl14).trans hl30)) hC30.old d24 hx7) fun v34 w31 hv34 => ?_)
        obtain ⟨hv34, hb16⟩ := hv34
        have hl31 := Le.no M hb16
        have hC31 := hC30.no hb16
        obtain rfl := vbool_eq hv34
        exact ⟨hb16, rfl⟩
       ·
        intro w32 D hS16 hd16
        have hl32 := Le.no M hS16
        have hC32 := hC14.no hS16
        have hd16 : PEq (.bool false) (D 1) w32 ∧ PEq (.bool false) (D 1) w32 ∧ True := hd16
        obtain ⟨d25, d26, -⟩ := hd16
        refine dg_sub (E' := [(41, (.bool false))]) ⟨(congrArg some d25), trivial⟩ ?_
        refine dg_plain rfl (ow_move rfl rfl ?_)
        exact ⟨BX.refl _ _, rfl⟩
       ·
        intro w33 D hS17 hd17
        have hl33 := Le.no M hS17
        have hC33 := hC14.no hS17
        have hd17 : PEq (.bool false) (D 2) w33 ∧ True := hd17
        obtain ⟨d27, -⟩ := hd17
        refine dg_sub (E' := [(42, (.bool false)), (6, (.pointer (some p1)))]) ⟨(congrArg some d27), rfl, trivial⟩ ?_
        exact dg_off rfl rfl rfl rfl ⟨BX.refl _ _, rfl⟩
       ·
        intro w34 D hS18 hd18
        have hl34 := Le.no M hS18
        have hC34 := hC14.no hS18
        have hd18 : PEq (.bool false) (D 2) w34 ∧ True := hd18
        obtain ⟨d28, -⟩ := hd18
        refine dg_sub (E' := [(42, (.bool false)), (7, (.pointer (some p3)))]) ⟨(congrArg some d28), rfl, trivial⟩ ?_
        exact dg_off rfl rfl rfl rfl ⟨BX.refl _ _, rfl⟩
       ·
        intro w35 D hS19 hd19
        have hl35 := Le.no M hS19
        have hC35 := hC14.no hS19
        have hd19 : PEq undef (D 3) w35 ∧ PEq undef (D 4) w35 ∧ PEq (.bool false) (D 2) w35 ∧ PEq (.bool false) (D 2) w35 ∧ True := hd19
        obtain ⟨d29, d30, d31, d32, -⟩ := hd19
        refine dg_sub (E' := [(43, undef), (44, undef), (42, (.bool false))]) ⟨(congrArg some d29), (congrArg some d30), (congrArg some d31), trivial⟩ ?_
        exact dg_off rfl rfl rfl rfl ⟨BX.refl _ _, rfl⟩
       ·
        intro w36 D hS20 hd20
        have hl36 := Le.no M hS20
        have hC36 := hC14.no hS20
        have hd20 : PEq (.bool false) (D 2) w36 ∧ True := hd20
        obtain ⟨d33, -⟩ := hd20
        refine dg_sub (E' := [(42, (.bool false)), (5, v1)]) ⟨(congrArg some d33), rfl, trivial⟩ ?_
        exact dg_off rfl rfl rfl rfl ⟨BX.refl _ _, rfl⟩
       ·
        intro w37 D hS21 hd21
        have hl37 := Le.no M hS21
        have hC37 := hC14.no hS21
        have hd21 : PEq (.bool false) (D 2) w37 ∧ True := hd21
        obtain ⟨d34, -⟩ := hd21
        refine dg_sub (E' := [(42, (.bool false)), (7, (.pointer (some p3)))]) ⟨(congrArg some d34), rfl, trivial⟩ ?_
        exact dg_off rfl rfl rfl rfl ⟨BX.refl _ _, rfl⟩
       ·
        intro w38 D hS22 hd22
        have hd22 : PV RBox M x2 (D 0) w38 ∧ PEq (.bool false) (D 1) w38 ∧ PEq (.bool false) (D 2) w38 ∧ PEq undef (D 3) w38 ∧ PEq undef (D 4) w38 ∧ PEq undef (D 5) w38 ∧ PEq undef (D 6) w38 ∧ PEq undef (D 7) w38 ∧ True := hd22
        obtain ⟨-, -, d37, -, -, d40, d41, d42, -⟩ := hd22
        have hl38 := Le.no M hS22
        have hC38 := hC14.no hS22
        refine lw_sub (E' := [(42, (.bool false)), (45, undef), (46, undef), (47, undef), (4, (.bool false)), (5, v1), (6, (.pointer (some p1))), (7, (.pointer (some p3)))]) ⟨(congrArg some d37), (congrArg some d40), (congrArg some d41), (congrArg some d42), rfl, rfl, rfl, rfl, trivial⟩ ?_
        refine lw_off rfl rfl rfl rfl rfl rfl ?_
        refine lw_off rfl rfl rfl rfl rfl rfl ?_
        refine lw_op rfl rfl rfl (ow_pickF rfl rfl rfl ?_)
        refine lw_op rfl rfl rfl (ow_assign rfl rfl ?_)
        refine lw_nil (ew_then (cw_ret ?_))
        obtain rfl := Option.some.inj h
        exact ew_ret (res1 rfl (.tmp rfl)) ⟨_, rfl, ((vbool _)), hC38.bx⟩
     ·
      subst hc4
      refine cw_true rfl ?_
      refine cw_seq (cw_region (lw_op rfl rfl rfl (ow_fieldAddr rfl rfl Tryd.underlying27 rfl (Tryd.sizeOf25 _) ?_)))
      refine lw_op rfl rfl rfl (ow_load (R := (RSlice (RSlice RSpan))) rfl rfl (ARep.mono ((hl9.trans hl10).trans hl11) (hp1.fld fld_Box_Sides)) (Tryd.sizeOf25 _) (Tryd.isAgg25 _) fun v35 hv35 => ?_)
      refine lw_op rfl rfl rfl (ow_len rfl rfl hv35 Tryd.underlying25 rfl ?_)
      refine lw_op rfl rfl rfl (ow_eqlI rfl rfl rfl fun bb5 hbb5 => ?_)
      refine lw_op rfl rfl rfl (ow_move rfl rfl ?_)
      replace h := cond_some h
      rcases h with ⟨hc6, h⟩ | ⟨hc6, h⟩
      ·
       obtain rfl := hbb5.trans hc6
       replace h := bind_some h
       obtain ⟨x10, hx10, h⟩ := h
       refine lw_on rfl rfl rfl rfl rfl rfl (ow_call rfl rfl Tryd.call19 (w_laws_alive (hG.mono (((((hl1.trans hl2).trans hl3).trans hl9).trans hl10).trans hl11)) hC11.old hx10) fun v36 w39 hv36 => ?_)
       obtain ⟨hv36, hb17⟩ := hv36
       have hl39 := Le.no M hb17
       have hC39 := hC11.no hb17
       obtain rfl := vbool_eq hv36
       refine lw_op rfl rfl rfl (ow_pickT rfl rfl rfl ?_)
       refine lw_op rfl rfl rfl (ow_assign rfl rfl ?_)
       refine lw_nil (ew_then (cw_ret (ew_thenR ?_)))
       obtain rfl := Option.some.inj h
       exact ew_ret (res1 rfl (.tmp rfl)) ⟨_, rfl, ((vbool _)), hC39.bx⟩
      ·
       obtain rfl := hbb5.trans hc6
       refine lw_off rfl rfl rfl rfl rfl rfl ?_
       refine lw_op rfl rfl rfl (ow_pickF rfl rfl rfl ?_)
       refine lw_op rfl rfl rfl (ow_assign rfl rfl ?_)
       refine lw_nil (ew_then (cw_ret (ew_thenR ?_)))
       obtain rfl := Option.some.inj h
       exact ew_ret (res1 rfl (.tmp rfl)) ⟨_, rfl, ((vbool _)), hC11.bx⟩
    ·
     subst hc3
     refine cw_true rfl ?_
     refine cw_seq (cw_region (lw_op rfl rfl rfl (ow_assign rfl rfl ?_)))
     refine lw_nil (ew_then (cw_ret (ew_thenR ?_)))
     obtain rfl := Option.some.inj h
     exact ew_ret (res1 rfl (.tmp rfl)) ⟨_, rfl, ((vbool _)), hC10.bx⟩


end Go.PF
