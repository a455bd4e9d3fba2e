/- The walks; no condition. -/
import Derived.Test.YtnleamfkpjnfoaaDoorProg
import Derived.Test.YtnleamfkpjnfoaaDoorWk3
import Derived.Test.YtnleamfkpjnfoaaDoorPFNew
set_option maxRecDepth 100000
set_option maxHeartbeats 4000000
namespace Go.PF
open Go Go.RowKit Go.Proofs

theorem w_laws_FnBoxMeet {w : World} {M : Nat → Prop} (hG : ARep (RArr 4 RShape) w M shapes ⟨0, 0, none⟩) (hO : ∀ b, M b → b < w.heap.size) {v0p : Value} {a_code : List Int} (h0 : VRep (RSlice RU8) w M a_code v0p) {v1p : Value} {a_more : List Int} (h1 : VRep (RSlice RU8) w M a_more v1p) {r : Bool} (h : F.laws_FnBoxMeet a_code a_more = some r) :
  Calls Tryd.prog 14 [v0p, v1p].toArray w fun e w' => ∃ v, e = .returned v ∧ VRep RBool w' M r v ∧ BX No w w' := by
 have hC : Cx No w M w M := Cx.start hO (fun _ e => e.elim)
 refine walk (N := 79) Tryd.func14 Z Tryd.ntmps14 Z (cw_seq (cw_region (lw_op Z Z Z (ow_assign Z Z (lw_nil (ew_then (cw_seq (cw_seq (cw_region (lw_op Z Z Z (ow_move Z Z (lw_op Z Z Z (ow_len Z Z h0 Tryd.underlying22 Z (lw_op Z Z Z (ow_gtr Z Z Z fun bb1 hbb1 => lw_op Z Z Z (ow_move Z Z ?_))))))))))))))))
 replace h := cond_some h
 rcases h with ⟨hc1, h⟩ | ⟨hc1, h⟩
 ·
  obtain rfl := hbb1.trans hc1
  refine lw_off Z Z Z Z Z Z (lw_off Z Z Z Z Z Z (lw_off Z Z Z Z Z Z (lw_op Z Z Z (ow_pickT Z Z Z (lw_nil (ew_then (cw_true Z (cw_seq (cw_region (lw_op Z Z Z (ow_assign Z Z (lw_nil (ew_then (cw_ret (ew_thenR ?_)))))))))))))))
  obtain rfl := Option.some.inj h
  exact ew_ret (res1 Z (.tmp Z)) ⟨_, Z, ((vbool _)), hC.bx⟩
 ·
  obtain rfl := hbb1.trans hc1
  refine lw_on Z Z Z Z Z Z (ow_move Z Z (lw_on Z Z Z Z Z Z (ow_len Z Z h1 Tryd.underlying22 Z (lw_on Z Z Z Z Z Z (ow_gtr Z Z Z fun bb2 hbb2 => lw_op Z Z Z (ow_pickF Z Z Z (lw_nil (ew_then ?_))))))))
  replace h := cond_some h
  rcases h with ⟨hc2, h⟩ | ⟨hc2, h⟩
  ·
   obtain rfl := hbb2.trans hc2
   refine cw_true Z (cw_seq (cw_region (lw_op Z Z Z (ow_assign Z Z (lw_nil (ew_then (cw_ret (ew_thenR ?_))))))))
   obtain rfl := Option.some.inj h
   exact ew_ret (res1 Z (.tmp Z)) ⟨_, Z, ((vbool _)), hC.bx⟩
  ·
   obtain rfl := hbb2.trans hc2
   refine cw_false Z (cw_skip (ew_then (cw_seq (cw_region (lw_op Z Z Z (ow_move Z Z ?_))))))
   replace h := bind_some h
   obtain ⟨x1, hx1, h⟩ := h
   refine lw_op Z Z Z (ow_call Z Z Tryd.call42 (w_spec_DrawBoxMeet hG hC.old h0 hx1) fun v1 w1 hv1 => ?_)
   obtain ⟨⟨v2, v3, rfl, hv2, hv3⟩, hb1⟩ := hv1
   have hl1 := Le.no M hb1
   have hC1 := hC.no hb1
   refine lw_op Z Z Z (ow_move Z Z (lw_op Z Z Z (ow_extract Z Z Z (lw_op Z Z Z (ow_extract Z Z Z (lw_op Z Z Z (ow_alloc Z (Tryd.zeroValue27 _) hC1 fun g1 w2 hg1 hg2 ho1 hb2 hl2 hC2 => ?_)))))))
   have hm1 : (Add g1 M) g1 := .inl Z
   refine lw_op Z Z Z (ow_alloc Z (Tryd.zeroValue27 _) hC2 fun g2 w3 hg3 hg4 ho2 hb3 hl3 hC3 => ?_)
   have hn1 := Nat.ne_of_lt (Nat.lt_of_lt_of_le ho1.lt hg3)
   have ho3 := ho1.no hb3
   have hm2 : (Add g2 (Add g1 M)) g1 := .inr hm1
   have hm3 : (Add g2 (Add g1 M)) g2 := .inl Z
   obtain ⟨A1, c1, rfl, hw1⟩ := open_Box hv2
   refine lw_op0 Z Z (ow_store (X := No) (us := [(.slice A1 x1.1.Sides.length c1)]) (cs' := #[(.slice A1 x1.1.Sides.length c1)]) Z Z Z Z ho3 (Tryd.sizeOf27 _) Z Z Z Z hm2 (.inl hg2) Z hC3 fun w4 ho4 hb4 hl4 hC4 => ?_)
   have ho5 := ho2.go hb4 (fun e => hn1 e.symm)
   obtain ⟨A2, c2, rfl, hw2⟩ := open_Box hv3
   refine lw_op0 Z Z (ow_store (X := No) (us := [(.slice A2 x1.2.Sides.length c2)]) (cs' := #[(.slice A2 x1.2.Sides.length c2)]) Z Z Z Z ho5 (Tryd.sizeOf27 _) Z Z Z Z hm3 (.inl hg4) Z hC4 fun w5 ho6 hb5 hl5 hC5 => ?_)
   have ho7 := ho4.go hb5 (fun e => hn1 e)
   refine lw_nil (ew_then (cw_seq (cw_region (lw_op Z Z Z (ow_loadOwnA Z Z Z ho7 (Tryd.isAgg27 _) (Tryd.sizeOf27 _) Z ?_)))))
   have hz1 := (((hl2.trans hl3).trans hl4).trans hl5)
   have hw3 : VRep RBox w5 (Add g2 (Add g1 M)) ({ Sides := x1.1.Sides } : Box) (.agg #[(.slice A1 x1.1.Sides.length c1)]) := shut_Box (VRep.mono hz1 hw1)
   refine lw_op Z Z Z (ow_loadOwnA Z Z Z ho6 (Tryd.isAgg27 _) (Tryd.sizeOf27 _) Z ?_)
   have hw4 : VRep RBox w5 (Add g2 (Add g1 M)) ({ Sides := x1.2.Sides } : Box) (.agg #[(.slice A2 x1.2.Sides.length c2)]) := shut_Box (VRep.mono hz1 hw2)
   replace h := bind_some h
   obtain ⟨x2, hx2, h⟩ := h
   have hz2 := ((((hl1.trans hl2).trans hl3).trans hl4).trans hl5)
   refine lw_op Z Z Z (ow_call Z Z Tryd.call28 (w_impl_BoxMeet (hG.mono hz2) hC5.old hw3 hw4 hx2) fun v4 w6 hv4 => ?_)
   obtain ⟨hv4, hb6⟩ := hv4
   have hl6 := Le.no (Add g2 (Add g1 M)) hb6
   have hC6 := hC5.no hb6
   have ho8 := ho7.no hb6
   have ho9 := ho6.no hb6
   refine lw_allocStore (R := RBox) Z Z Z Z Z Z Z Tryd.zeroValue27 Tryd.sizeOf27 Z Z Z (by simp) hv4 hC6 fun p1 w7 hp1 hb7 hl7 hC7 => ?_
   have ho10 := ho8.no hb7
   have ho11 := ho9.no hb7
   refine lw_nil (ew_then (cw_seq (cw_seq ?_)))
   replace h := bind_some h
   obtain ⟨x3, hx3, h⟩ := h
   replace h := bind_some h
   obtain ⟨x4, hx4, h⟩ := h
   replace h := cond_some h
   rcases h with ⟨hc3, h⟩ | ⟨hc3, h⟩
   ·
    subst hc3
    replace h := bind_some h
    obtain ⟨x5, hx5, h⟩ := h
    have hz3 := ((hz2.trans hl6).trans hl7)
    have hz4 := ((hz1.trans hl6).trans hl7)
    refine cw_sub (E' := [(1, v1p), (4, (.bool false)), (5, (.pointer (some ⟨g1, 0, none⟩))), (6, (.pointer (some ⟨g2, 0, none⟩))), (7, (.pointer (some p1)))]) ⟨Z, Z, Z, Z, Z, trivial⟩ (cw_drawQ 11 [PV RBox (Add g2 (Add g1 M)) x2, PV RBox (Add g2 (Add g1 M)) ({ Sides := x1.1.Sides } : Box), PV RBox (Add g2 (Add g1 M)) ({ Sides := x1.2.Sides } : Box), PV RBox (Add g2 (Add g1 M)) x3, PEq (.bool true), PEq (.bool false), PEq (.bool false), PV RBox (Add g2 (Add g1 M)) x2, PV RBox (Add g2 (Add g1 M)) ({ Sides := x1.2.Sides } : Box), PV RBox (Add g2 (Add g1 M)) ({ Sides := x1.1.Sides } : Box), PV RBox (Add g2 (Add g1 M)) x5] (by kernel_rfl) Z (by kernel_rfl) ⟨PV.mono _ _ _, PV.mono _ _ _, PV.mono _ _ _, PV.mono _ _ _, PEq.mono _, PEq.mono _, PEq.mono _, PV.mono _ _ _, PV.mono _ _ _, PV.mono _ _ _, PV.mono _ _ _, trivial⟩ ⟨?_, ?_, ?_, ?_, ?_, ?_, ?_, ?_, ?_, ?_, ?_, trivial⟩ ?_)
    ·
     intro w11 D hS1 hd1
     have hl11 := Le.no (Add g2 (Add g1 M)) hS1
     exact dg_sub (E' := [(7, (.pointer (some p1)))]) ⟨Z, trivial⟩ (dg_plain Z (ow_load (R := RBox) Z Z (ARep.mono hl11 hp1) (Tryd.sizeOf27 _) (Tryd.isAgg27 _) fun v10 hv10 => ⟨BX.refl _ _, hv10⟩))
    ·
     intro w12 D hS2 hd2
     have hl12 := Le.no (Add g2 (Add g1 M)) hS2
     have ho20 := ho10.no hS2
     refine dg_sub (E' := [(5, (.pointer (some ⟨g1, 0, none⟩)))]) ⟨Z, trivial⟩ (dg_plain Z (ow_loadOwnA Z Z Z ho20 (Tryd.isAgg27 _) (Tryd.sizeOf27 _) Z ?_))
     have hw9 : VRep RBox w12 (Add g2 (Add g1 M)) ({ Sides := x1.1.Sides } : Box) (.agg #[(.slice A1 x1.1.Sides.length c1)]) := shut_Box (VRep.mono (hz4.trans hl12) hw1)
     exact ⟨BX.refl _ _, hw9⟩
    ·
     intro w13 D hS3 hd3
     have hl13 := Le.no (Add g2 (Add g1 M)) hS3
     have ho23 := ho11.no hS3
     refine dg_sub (E' := [(6, (.pointer (some ⟨g2, 0, none⟩)))]) ⟨Z, trivial⟩ (dg_plain Z (ow_loadOwnA Z Z Z ho23 (Tryd.isAgg27 _) (Tryd.sizeOf27 _) Z ?_))
     have hw10 : VRep RBox w13 (Add g2 (Add g1 M)) ({ Sides := x1.2.Sides } : Box) (.agg #[(.slice A2 x1.2.Sides.length c2)]) := shut_Box (VRep.mono (hz4.trans hl13) hw2)
     exact ⟨BX.refl _ _, hw10⟩
    ·
     intro w14 D hS4 hd4
     have hl14 := Le.no (Add g2 (Add g1 M)) hS4
     have hC14 := hC7.no hS4
     have d1 : PV RBox (Add g2 (Add g1 M)) ({ Sides := x1.1.Sides } : Box) (D 1) w14 := dpA hd4 1 Z
     have d2 : PV RBox (Add g2 (Add g1 M)) ({ Sides := x1.2.Sides } : Box) (D 2) w14 := dpA hd4 2 Z
     generalize hq1 : (D 1) = v11 at d1
     generalize hq2 : (D 2) = v12 at d2
     refine dg_sub (E' := [(26, v11), (27, v12)]) ⟨(congrArg some hq1), (congrArg some hq2), trivial⟩ (dg_plain Z (ow_call Z Z Tryd.call44 (w_spec_BoxMeet (hG.mono (hz3.trans hl14)) hC14.old d1 d2 hx3) fun v13 w15 hv13 => ?_))
     obtain ⟨hv13, hb11⟩ := hv13
     exact ⟨hb11, hv13⟩
    ·
     intro w16 D hS5 hd5
     have hl16 := Le.no (Add g2 (Add g1 M)) hS5
     have hC16 := hC7.no hS5
     have d3 : PV RBox (Add g2 (Add g1 M)) x2 (D 0) w16 := dpA hd5 0 Z
     have d4 : PV RBox (Add g2 (Add g1 M)) x3 (D 3) w16 := dpA hd5 3 Z
     generalize hq3 : (D 0) = v14 at d3
     generalize hq4 : (D 3) = v15 at d4
     refine dg_sub (E' := [(25, v14), (28, v15)]) ⟨(congrArg some hq3), (congrArg some hq4), trivial⟩ (dg_plain Z (ow_call Z Z Tryd.call17 (w_laws_sameBox (hG.mono (hz3.trans hl16)) hC16.old d3 d4 hx4) fun v16 w17 hv16 => ?_))
     obtain ⟨hv16, hb12⟩ := hv16
     obtain rfl := vbool_eq hv16
     exact ⟨hb12, Z⟩
    ·
     intro w18 D hS6 hd6
     exact dg_sub (E' := [(29, (.bool true))]) ⟨(dpE hd6 4 Z Z), trivial⟩ (dg_plain Z (ow_not Z Z ⟨BX.refl _ _, Z⟩))
    ·
     intro w19 D hS7 hd7
     exact dg_sub (E' := [(30, (.bool false))]) ⟨(dpE hd7 5 Z Z), trivial⟩ (dg_plain Z (ow_move Z Z ⟨BX.refl _ _, Z⟩))
    ·
     intro w20 D hS8 hd8
     have hl20 := Le.no (Add g2 (Add g1 M)) hS8
     exact dg_sub (E' := [(31, (.bool false)), (7, (.pointer (some p1)))]) ⟨(dpE hd8 6 Z Z), Z, trivial⟩ (dg_on Z Z Z Z (ow_load (R := RBox) Z Z (ARep.mono hl20 hp1) (Tryd.sizeOf27 _) (Tryd.isAgg27 _) fun v17 hv17 => ⟨BX.refl _ _, hv17⟩))
    ·
     intro w21 D hS9 hd9
     have hl21 := Le.no (Add g2 (Add g1 M)) hS9
     have ho39 := ho11.no hS9
     refine dg_sub (E' := [(31, (.bool false)), (6, (.pointer (some ⟨g2, 0, none⟩)))]) ⟨(dpE hd9 6 Z Z), Z, trivial⟩ (dg_on Z Z Z Z (ow_loadOwnA Z Z Z ho39 (Tryd.isAgg27 _) (Tryd.sizeOf27 _) Z ?_))
     have hw11 : VRep RBox w21 (Add g2 (Add g1 M)) ({ Sides := x1.2.Sides } : Box) (.agg #[(.slice A2 x1.2.Sides.length c2)]) := shut_Box (VRep.mono (hz4.trans hl21) hw2)
     exact ⟨BX.refl _ _, hw11⟩
    ·
     intro w22 D hS10 hd10
     have hl22 := Le.no (Add g2 (Add g1 M)) hS10
     have ho40 := ho10.no hS10
     refine dg_sub (E' := [(31, (.bool false)), (5, (.pointer (some ⟨g1, 0, none⟩)))]) ⟨(dpE hd10 6 Z Z), Z, trivial⟩ (dg_on Z Z Z Z (ow_loadOwnA Z Z Z ho40 (Tryd.isAgg27 _) (Tryd.sizeOf27 _) Z ?_))
     have hw12 : VRep RBox w22 (Add g2 (Add g1 M)) ({ Sides := x1.1.Sides } : Box) (.agg #[(.slice A1 x1.1.Sides.length c1)]) := shut_Box (VRep.mono (hz4.trans hl22) hw1)
     exact ⟨BX.refl _ _, hw12⟩
    ·
     intro w23 D hS11 hd11
     have hl23 := Le.no (Add g2 (Add g1 M)) hS11
     have hC23 := hC7.no hS11
     have d12 : PV RBox (Add g2 (Add g1 M)) ({ Sides := x1.2.Sides } : Box) (D 8) w23 := dpA hd11 8 Z
     have d13 : PV RBox (Add g2 (Add g1 M)) ({ Sides := x1.1.Sides } : Box) (D 9) w23 := dpA hd11 9 Z
     generalize hq5 : (D 8) = v18 at d12
     generalize hq6 : (D 9) = v19 at d13
     refine dg_sub (E' := [(33, v18), (34, v19), (31, (.bool false))]) ⟨(congrArg some hq5), (congrArg some hq6), (dpE hd11 6 Z Z), trivial⟩ (dg_on Z Z Z Z (ow_call Z Z Tryd.call28 (w_impl_BoxMeet (hG.mono (hz3.trans hl23)) hC23.old d12 d13 hx5) fun v20 w24 hv20 => ?_))
     obtain ⟨hv20, hb13⟩ := hv20
     exact ⟨hb13, hv20⟩
    ·
     intro w25 D hS12 hd12
     have d23 : PV RBox (Add g2 (Add g1 M)) x2 (D 7) w25 := dpA hd12 7 Z
     have d26 : PV RBox (Add g2 (Add g1 M)) x5 (D 10) w25 := dpA hd12 10 Z
     have hl25 := Le.no (Add g2 (Add g1 M)) hS12
     have hC25 := hC7.no hS12
     have ho46 := ho10.no hS12
     have ho47 := ho11.no hS12
     generalize hq7 : (D 7) = v21 at d23
     generalize hq8 : (D 10) = v22 at d26
     refine lw_sub (E' := [(31, (.bool false)), (32, v21), (35, v22), (1, v1p), (4, (.bool false)), (5, (.pointer (some ⟨g1, 0, none⟩))), (6, (.pointer (some ⟨g2, 0, none⟩))), (7, (.pointer (some p1)))]) ⟨(dpE hd12 6 Z Z), (congrArg some hq7), (congrArg some hq8), Z, Z, Z, Z, Z, trivial⟩ ?_
     replace h := bind_some h
     obtain ⟨x6, hx6, h⟩ := h
     refine lw_on Z Z Z Z Z Z (ow_call Z Z Tryd.call17 (w_laws_sameBox (hG.mono (hz3.trans hl25)) hC25.old d23 d26 hx6) fun v23 w26 hv23 => ?_)
     obtain ⟨hv23, hb14⟩ := hv23
     have hl26 := Le.no (Add g2 (Add g1 M)) hb14
     have hC26 := hC25.no hb14
     have ho48 := ho46.no hb14
     have ho49 := ho47.no hb14
     obtain rfl := vbool_eq hv23
     refine lw_on Z Z Z Z Z Z (ow_not Z Z (lw_op Z Z Z (ow_pickF Z Z Z (lw_nil (ew_then ?_)))))
     replace h := cond_some h
     rcases h with ⟨hc4, h⟩ | ⟨hc4, h⟩
     ·
      subst hc4
      refine cw_false Z (cw_skip (ew_then (cw_seq (cw_seq (cw_region (lw_op Z Z Z (ow_fieldAddr Z Z Tryd.underlying27 Z (Tryd.sizeOf25 _) (lw_op Z Z Z (ow_load (R := (RSlice (RSlice RSpan))) Z Z (ARep.mono (hl25.trans hl26) (hp1.fld fld_Box_Sides)) (Tryd.sizeOf25 _) (Tryd.isAgg25 _) fun v24 hv24 => lw_op Z Z Z (ow_len Z Z hv24 Tryd.underlying25 Z (lw_op Z Z Z (ow_eqlI Z Z Z fun bb3 hbb3 => lw_nil (ew_then ?_)))))))))))))
      replace h := cond_some h
      rcases h with ⟨hc5, h⟩ | ⟨hc5, h⟩
      ·
       obtain rfl := hbb3.trans hc5
       refine cw_true Z (cw_seq (cw_region ?_))
       replace h := bind_some h
       obtain ⟨x7, hx7, h⟩ := h
       have hz6 := ((hz3.trans hl25).trans hl26)
       refine lw_op Z Z Z (ow_call Z Z Tryd.call19 (w_laws_alive (hG.mono hz6) hC26.old hx7) fun v25 w27 hv25 => ?_)
       obtain ⟨hv25, hb15⟩ := hv25
       have hC27 := hC26.no hb15
       obtain rfl := vbool_eq hv25
       refine lw_op Z Z Z (ow_assign Z Z (lw_nil (ew_then (cw_ret (ew_thenR ?_)))))
       obtain rfl := Option.some.inj h
       exact ew_ret (res1 Z (.tmp Z)) ⟨_, Z, ((vbool _)), hC27.bx⟩
      ·
       obtain rfl := hbb3.trans hc5
       refine cw_false Z (cw_skip (ew_then (cw_seq (cw_region (lw_op Z Z Z (ow_loadOwnA Z Z Z ho48 (Tryd.isAgg27 _) (Tryd.sizeOf27 _) Z ?_))))))
       have hz7 := ((hz4.trans hl25).trans hl26)
       have hw13 : VRep RBox w26 (Add g2 (Add g1 M)) ({ Sides := x1.1.Sides } : Box) (.agg #[(.slice A1 x1.1.Sides.length c1)]) := shut_Box (VRep.mono hz7 hw1)
       refine lw_op Z Z Z (ow_loadOwnA Z Z Z ho49 (Tryd.isAgg27 _) (Tryd.sizeOf27 _) Z ?_)
       have hw14 : VRep RBox w26 (Add g2 (Add g1 M)) ({ Sides := x1.2.Sides } : Box) (.agg #[(.slice A2 x1.2.Sides.length c2)]) := shut_Box (VRep.mono hz7 hw2)
       refine lw_op Z Z Z (ow_buildSlice (R := RBox) (xs := [({ Sides := x1.1.Sides } : Box), ({ Sides := x1.2.Sides } : Box)]) (cs := #[(.slice A1 x1.1.Sides.length c1), (.slice A2 x1.2.Sides.length c2)]) (e := 27) Z Z (by kernel_rfl) Z Z ⟨_, _, Z, hw13.cells, _, _, Z, hw14.cells, Z⟩ hC26 fun p2 w28 hw15 hb16 hl28 hC28 => ?_)
       have ho52 := ho48.no hb16
       have ho53 := ho49.no hb16
       refine lw_op Z Z Z (ow_move Z Z ?_)
       have hz8 := (((hz3.trans hl25).trans hl26).trans hl28)
       refine lw_op Z Z Z (ow_len Z Z (VRep.mono hz8 h1) Tryd.underlying22 Z ?_)
       replace h := bind_some h
       obtain ⟨x8, hx8, h⟩ := h
       refine lw_op Z Z Z (ow_call Z Z Tryd.call29 (w_laws_probe (hG.mono hz8) hC28.old hw15 hx8) fun v26 w29 hv26 => ?_)
       obtain ⟨hv26, hb17⟩ := hv26
       have hl29 := Le.no (Add g2 (Add g1 M)) hb17
       have hC29 := hC28.no hb17
       have ho54 := ho52.no hb17
       have ho55 := ho53.no hb17
       refine lw_allocStore (R := RPacket) Z Z Z Z Z Z Z Tryd.zeroValue45 Tryd.sizeOf45 Z Z Z (by simp) hv26 hC29 fun p3 w30 hp3 hb18 hl30 hC30 => ?_
       have ho56 := ho54.no hb18
       have ho57 := ho55.no hb18
       refine lw_nil (ew_then (cw_seq ?_))
       replace h := bind_some h
       obtain ⟨x9, hx9, h⟩ := h
       replace h := bind_some h
       obtain ⟨x10, hx10, h⟩ := h
       replace h := cond_some h
       rcases h with ⟨hc6, h⟩ | ⟨hc6, h⟩
       ·
        subst hc6
        replace h := bind_some h
        obtain ⟨x11, hx11, h⟩ := h
        replace h := cond_some h
        rcases h with ⟨hc7, h⟩ | ⟨hc7, h⟩
        ·
         replace h := bind_some h
         obtain ⟨x12, hx12, h⟩ := h
         replace h := cond_some h
         rcases h with ⟨hc8, h⟩ | ⟨hc8, h⟩
         ·
          subst hc8
          replace h := bind_some h
          obtain ⟨x13, hx13, h⟩ := h
          replace h := cond_some h
          rcases h with ⟨hc9, h⟩ | ⟨hc9, h⟩
          ·
           subst hc9
           replace h := bind_some h
           obtain ⟨x14, hx14, h⟩ := h
           have hz9 := ((hz8.trans hl29).trans hl30)
           have hz10 := (((hz7.trans hl28).trans hl29).trans hl30)
           have hz11 := ((((hl25.trans hl26).trans hl28).trans hl29).trans hl30)
           refine cw_sub (E' := [(4, (.bool false)), (5, (.pointer (some ⟨g1, 0, none⟩))), (6, (.pointer (some ⟨g2, 0, none⟩))), (7, (.pointer (some p1))), (8, (.pointer (some p3)))]) ⟨Z, Z, Z, Z, Z, trivial⟩ (cw_drawQ 27 [PV RBox (Add g2 (Add g1 M)) x2, PV RPacket (Add g2 (Add g1 M)) x8, PEq (.bool x9), PV RBox (Add g2 (Add g1 M)) ({ Sides := x1.1.Sides } : Box), PV RPacket (Add g2 (Add g1 M)) x8, PEq (.bool true), PEq (.bool true), PV RBox (Add g2 (Add g1 M)) ({ Sides := x1.2.Sides } : Box), PV RPacket (Add g2 (Add g1 M)) x8, PEq (.bool x11), PEq (.bool x11), PEq (.bool true), PEq (.bool true), PV RBox (Add g2 (Add g1 M)) x2, PV RBox (Add g2 (Add g1 M)) ({ Sides := x1.1.Sides } : Box), PEq (.bool true), PEq (.bool true), PEq (.bool true), PV RBox (Add g2 (Add g1 M)) x2, PV RBox (Add g2 (Add g1 M)) ({ Sides := x1.2.Sides } : Box), PEq (.bool true), PEq (.bool true), PEq (.bool true), PV RBox (Add g2 (Add g1 M)) ({ Sides := x1.1.Sides } : Box), PV RBox (Add g2 (Add g1 M)) ({ Sides := x1.1.Sides } : Box), PV RBox (Add g2 (Add g1 M)) x14, PV RBox (Add g2 (Add g1 M)) ({ Sides := x1.1.Sides } : Box)] (by kernel_rfl) Z (by kernel_rfl) ⟨PV.mono _ _ _, PV.mono _ _ _, PEq.mono _, PV.mono _ _ _, PV.mono _ _ _, PEq.mono _, PEq.mono _, PV.mono _ _ _, PV.mono _ _ _, PEq.mono _, PEq.mono _, PEq.mono _, PEq.mono _, PV.mono _ _ _, PV.mono _ _ _, PEq.mono _, PEq.mono _, PEq.mono _, PV.mono _ _ _, PV.mono _ _ _, PEq.mono _, PEq.mono _, PEq.mono _, PV.mono _ _ _, PV.mono _ _ _, PV.mono _ _ _, PV.mono _ _ _, trivial⟩ ⟨?_, ?_, ?_, ?_, ?_, ?_, ?_, ?_, ?_, ?_, ?_, ?_, ?_, ?_, ?_, ?_, ?_, ?_, ?_, ?_, ?_, ?_, ?_, ?_, ?_, ?_, ?_, trivial⟩ ?_)
           ·
            intro w37 D hS13 hd13
            have hl37 := Le.no (Add g2 (Add g1 M)) hS13
            exact dg_sub (E' := [(7, (.pointer (some p1)))]) ⟨Z, trivial⟩ (dg_plain Z (ow_load (R := RBox) Z Z (ARep.mono (hz11.trans hl37) hp1) (Tryd.sizeOf27 _) (Tryd.isAgg27 _) fun v39 hv39 => ⟨BX.refl _ _, hv39⟩))
           ·
            intro w38 D hS14 hd14
            have hl38 := Le.no (Add g2 (Add g1 M)) hS14
            exact dg_sub (E' := [(8, (.pointer (some p3)))]) ⟨Z, trivial⟩ (dg_plain Z (ow_load (R := RPacket) Z Z (ARep.mono hl38 hp3) (Tryd.sizeOf45 _) (Tryd.isAgg45 _) fun v40 hv40 => ⟨BX.refl _ _, hv40⟩))
           ·
            intro w39 D hS15 hd15
            have hl39 := Le.no (Add g2 (Add g1 M)) hS15
            have hC39 := hC30.no hS15
            have d27 : PV RBox (Add g2 (Add g1 M)) x2 (D 0) w39 := dpA hd15 0 Z
            have d28 : PV RPacket (Add g2 (Add g1 M)) x8 (D 1) w39 := dpA hd15 1 Z
            generalize hq9 : (D 0) = v41 at d27
            generalize hq10 : (D 1) = v42 at d28
            refine dg_sub (E' := [(50, v41), (51, v42)]) ⟨(congrArg some hq9), (congrArg some hq10), trivial⟩ (dg_plain Z (ow_call Z Z Tryd.call31 (w_impl_BoxHas (hG.mono (hz9.trans hl39)) hC39.old d27 d28 hx9) fun v43 w40 hv43 => ?_))
            obtain ⟨hv43, hb25⟩ := hv43
            obtain rfl := vbool_eq hv43
            exact ⟨hb25, Z⟩
           ·
            intro w41 D hS16 hd16
            have hl41 := Le.no (Add g2 (Add g1 M)) hS16
            have ho78 := ho56.no hS16
            refine dg_sub (E' := [(5, (.pointer (some ⟨g1, 0, none⟩)))]) ⟨Z, trivial⟩ (dg_plain Z (ow_loadOwnA Z Z Z ho78 (Tryd.isAgg27 _) (Tryd.sizeOf27 _) Z ?_))
            have hw23 : VRep RBox w41 (Add g2 (Add g1 M)) ({ Sides := x1.1.Sides } : Box) (.agg #[(.slice A1 x1.1.Sides.length c1)]) := shut_Box (VRep.mono (hz10.trans hl41) hw1)
            exact ⟨BX.refl _ _, hw23⟩
           ·
            intro w42 D hS17 hd17
            have hl42 := Le.no (Add g2 (Add g1 M)) hS17
            exact dg_sub (E' := [(8, (.pointer (some p3)))]) ⟨Z, trivial⟩ (dg_plain Z (ow_load (R := RPacket) Z Z (ARep.mono hl42 hp3) (Tryd.sizeOf45 _) (Tryd.isAgg45 _) fun v44 hv44 => ⟨BX.refl _ _, hv44⟩))
           ·
            intro w43 D hS18 hd18
            have hl43 := Le.no (Add g2 (Add g1 M)) hS18
            have hC43 := hC30.no hS18
            have d29 : PV RBox (Add g2 (Add g1 M)) ({ Sides := x1.1.Sides } : Box) (D 3) w43 := dpA hd18 3 Z
            have d30 : PV RPacket (Add g2 (Add g1 M)) x8 (D 4) w43 := dpA hd18 4 Z
            generalize hq11 : (D 3) = v45 at d29
            generalize hq12 : (D 4) = v46 at d30
            refine dg_sub (E' := [(53, v45), (54, v46)]) ⟨(congrArg some hq11), (congrArg some hq12), trivial⟩ (dg_plain Z (ow_call Z Z Tryd.call31 (w_impl_BoxHas (hG.mono (hz9.trans hl43)) hC43.old d29 d30 hx10) fun v47 w44 hv47 => ?_))
            obtain ⟨hv47, hb26⟩ := hv47
            obtain rfl := vbool_eq hv47
            exact ⟨hb26, Z⟩
           ·
            intro w45 D hS19 hd19
            exact dg_sub (E' := [(55, (.bool true))]) ⟨(dpE hd19 5 Z Z), trivial⟩ (dg_plain Z (ow_move Z Z ⟨BX.refl _ _, Z⟩))
           ·
            intro w46 D hS20 hd20
            have hl46 := Le.no (Add g2 (Add g1 M)) hS20
            have ho89 := ho57.no hS20
            refine dg_sub (E' := [(56, (.bool true)), (6, (.pointer (some ⟨g2, 0, none⟩)))]) ⟨(dpE hd20 6 Z Z), Z, trivial⟩ (dg_on Z Z Z Z (ow_loadOwnA Z Z Z ho89 (Tryd.isAgg27 _) (Tryd.sizeOf27 _) Z ?_))
            have hw24 : VRep RBox w46 (Add g2 (Add g1 M)) ({ Sides := x1.2.Sides } : Box) (.agg #[(.slice A2 x1.2.Sides.length c2)]) := shut_Box (VRep.mono (hz10.trans hl46) hw2)
            exact ⟨BX.refl _ _, hw24⟩
           ·
            intro w47 D hS21 hd21
            have hl47 := Le.no (Add g2 (Add g1 M)) hS21
            exact dg_sub (E' := [(56, (.bool true)), (8, (.pointer (some p3)))]) ⟨(dpE hd21 6 Z Z), Z, trivial⟩ (dg_on Z Z Z Z (ow_load (R := RPacket) Z Z (ARep.mono hl47 hp3) (Tryd.sizeOf45 _) (Tryd.isAgg45 _) fun v48 hv48 => ⟨BX.refl _ _, hv48⟩))
           ·
            intro w48 D hS22 hd22
            have hl48 := Le.no (Add g2 (Add g1 M)) hS22
            have hC48 := hC30.no hS22
            have d36 : PV RBox (Add g2 (Add g1 M)) ({ Sides := x1.2.Sides } : Box) (D 7) w48 := dpA hd22 7 Z
            have d37 : PV RPacket (Add g2 (Add g1 M)) x8 (D 8) w48 := dpA hd22 8 Z
            generalize hq13 : (D 7) = v49 at d36
            generalize hq14 : (D 8) = v50 at d37
            refine dg_sub (E' := [(57, v49), (58, v50), (56, (.bool true))]) ⟨(congrArg some hq13), (congrArg some hq14), (dpE hd22 6 Z Z), trivial⟩ (dg_on Z Z Z Z (ow_call Z Z Tryd.call31 (w_impl_BoxHas (hG.mono (hz9.trans hl48)) hC48.old d36 d37 hx11) fun v51 w49 hv51 => ?_))
            obtain ⟨hv51, hb27⟩ := hv51
            obtain rfl := vbool_eq hv51
            exact ⟨hb27, Z⟩
           ·
            intro w50 D hS23 hd23
            have d41 : PEq (.bool x11) (D 9) w50 := dpA hd23 9 Z
            obtain ⟨bb5, hq15, hq16⟩ : ∃ b, b = x11 ∧ (D 9) = .bool b := ⟨_, rfl, d41⟩
            exact dg_sub (E' := [(56, (.bool true)), (59, (.bool bb5))]) ⟨(dpE hd23 6 Z Z), (congrArg some hq16), trivial⟩ (dg_plain Z (ow_pickT Z Z Z ⟨BX.refl _ _, (congrArg Value.bool hq15)⟩))
           ·
            intro w51 D hS24 hd24
            have d42 : PEq (.bool x9) (D 2) w51 := dpA hd24 2 Z
            have d43 : PEq (.bool x11) (D 10) w51 := dpA hd24 10 Z
            obtain ⟨bb6, hq17, hq18⟩ : ∃ b, b = x9 ∧ (D 2) = .bool b := ⟨_, rfl, d42⟩
            obtain ⟨bb7, hq19, hq20⟩ : ∃ b, b = x11 ∧ (D 10) = .bool b := ⟨_, rfl, d43⟩
            refine dg_sub (E' := [(52, (.bool bb6)), (60, (.bool bb7))]) ⟨(congrArg some hq18), (congrArg some hq20), trivial⟩ (dg_plain Z (ow_eqlB Z Z Z Tryd.underlying4 fun bb8 hbb8 => ?_))
            have hbb8' : bb8 = (x9 == x11) := hbb8.trans (by rw [hq17, hq19])
            obtain rfl := hbb8'.trans hc7
            exact ⟨BX.refl _ _, Z⟩
           ·
            intro w52 D hS25 hd25
            exact dg_sub (E' := [(61, (.bool true))]) ⟨(dpE hd25 11 Z Z), trivial⟩ (dg_plain Z (ow_move Z Z ⟨BX.refl _ _, Z⟩))
           ·
            intro w53 D hS26 hd26
            have hl53 := Le.no (Add g2 (Add g1 M)) hS26
            exact dg_sub (E' := [(62, (.bool true)), (7, (.pointer (some p1)))]) ⟨(dpE hd26 12 Z Z), Z, trivial⟩ (dg_on Z Z Z Z (ow_load (R := RBox) Z Z (ARep.mono (hz11.trans hl53) hp1) (Tryd.sizeOf27 _) (Tryd.isAgg27 _) fun v52 hv52 => ⟨BX.refl _ _, hv52⟩))
           ·
            intro w54 D hS27 hd27
            have hl54 := Le.no (Add g2 (Add g1 M)) hS27
            have ho104 := ho56.no hS27
            refine dg_sub (E' := [(62, (.bool true)), (5, (.pointer (some ⟨g1, 0, none⟩)))]) ⟨(dpE hd27 12 Z Z), Z, trivial⟩ (dg_on Z Z Z Z (ow_loadOwnA Z Z Z ho104 (Tryd.isAgg27 _) (Tryd.sizeOf27 _) Z ?_))
            have hw25 : VRep RBox w54 (Add g2 (Add g1 M)) ({ Sides := x1.1.Sides } : Box) (.agg #[(.slice A1 x1.1.Sides.length c1)]) := shut_Box (VRep.mono (hz10.trans hl54) hw1)
            exact ⟨BX.refl _ _, hw25⟩
           ·
            intro w55 D hS28 hd28
            have hl55 := Le.no (Add g2 (Add g1 M)) hS28
            have hC55 := hC30.no hS28
            have d48 : PV RBox (Add g2 (Add g1 M)) x2 (D 13) w55 := dpA hd28 13 Z
            have d49 : PV RBox (Add g2 (Add g1 M)) ({ Sides := x1.1.Sides } : Box) (D 14) w55 := dpA hd28 14 Z
            generalize hq21 : (D 13) = v53 at d48
            generalize hq22 : (D 14) = v54 at d49
            refine dg_sub (E' := [(63, v53), (64, v54), (62, (.bool true))]) ⟨(congrArg some hq21), (congrArg some hq22), (dpE hd28 12 Z Z), trivial⟩ (dg_on Z Z Z Z (ow_call Z Z Tryd.call27 (w_impl_BoxWithin (hG.mono (hz9.trans hl55)) hC55.old d48 d49 hx12) fun v55 w56 hv55 => ?_))
            obtain ⟨hv55, hb28⟩ := hv55
            obtain rfl := vbool_eq hv55
            exact ⟨hb28, Z⟩
           ·
            intro w57 D hS29 hd29
            exact dg_sub (E' := [(62, (.bool true)), (65, (.bool true))]) ⟨(dpE hd29 12 Z Z), (dpE hd29 15 Z Z), trivial⟩ (dg_plain Z (ow_pickT Z Z Z ⟨BX.refl _ _, Z⟩))
           ·
            intro w58 D hS30 hd30
            exact dg_sub (E' := [(66, (.bool true))]) ⟨(dpE hd30 16 Z Z), trivial⟩ (dg_plain Z (ow_move Z Z ⟨BX.refl _ _, Z⟩))
           ·
            intro w59 D hS31 hd31
            have hl59 := Le.no (Add g2 (Add g1 M)) hS31
            exact dg_sub (E' := [(67, (.bool true)), (7, (.pointer (some p1)))]) ⟨(dpE hd31 17 Z Z), Z, trivial⟩ (dg_on Z Z Z Z (ow_load (R := RBox) Z Z (ARep.mono (hz11.trans hl59) hp1) (Tryd.sizeOf27 _) (Tryd.isAgg27 _) fun v56 hv56 => ⟨BX.refl _ _, hv56⟩))
           ·
            intro w60 D hS32 hd32
            have hl60 := Le.no (Add g2 (Add g1 M)) hS32
            have ho117 := ho57.no hS32
            refine dg_sub (E' := [(67, (.bool true)), (6, (.pointer (some ⟨g2, 0, none⟩)))]) ⟨(dpE hd32 17 Z Z), Z, trivial⟩ (dg_on Z Z Z Z (ow_loadOwnA Z Z Z ho117 (Tryd.isAgg27 _) (Tryd.sizeOf27 _) Z ?_))
            have hw26 : VRep RBox w60 (Add g2 (Add g1 M)) ({ Sides := x1.2.Sides } : Box) (.agg #[(.slice A2 x1.2.Sides.length c2)]) := shut_Box (VRep.mono (hz10.trans hl60) hw2)
            exact ⟨BX.refl _ _, hw26⟩
           ·
            intro w61 D hS33 hd33
            have hl61 := Le.no (Add g2 (Add g1 M)) hS33
            have hC61 := hC30.no hS33
            have d58 : PV RBox (Add g2 (Add g1 M)) x2 (D 18) w61 := dpA hd33 18 Z
            have d59 : PV RBox (Add g2 (Add g1 M)) ({ Sides := x1.2.Sides } : Box) (D 19) w61 := dpA hd33 19 Z
            generalize hq23 : (D 18) = v57 at d58
            generalize hq24 : (D 19) = v58 at d59
            refine dg_sub (E' := [(68, v57), (69, v58), (67, (.bool true))]) ⟨(congrArg some hq23), (congrArg some hq24), (dpE hd33 17 Z Z), trivial⟩ (dg_on Z Z Z Z (ow_call Z Z Tryd.call27 (w_impl_BoxWithin (hG.mono (hz9.trans hl61)) hC61.old d58 d59 hx13) fun v59 w62 hv59 => ?_))
            obtain ⟨hv59, hb29⟩ := hv59
            obtain rfl := vbool_eq hv59
            exact ⟨hb29, Z⟩
           ·
            intro w63 D hS34 hd34
            exact dg_sub (E' := [(67, (.bool true)), (70, (.bool true))]) ⟨(dpE hd34 17 Z Z), (dpE hd34 20 Z Z), trivial⟩ (dg_plain Z (ow_pickT Z Z Z ⟨BX.refl _ _, Z⟩))
           ·
            intro w64 D hS35 hd35
            exact dg_sub (E' := [(71, (.bool true))]) ⟨(dpE hd35 21 Z Z), trivial⟩ (dg_plain Z (ow_move Z Z ⟨BX.refl _ _, Z⟩))
           ·
            intro w65 D hS36 hd36
            have hl65 := Le.no (Add g2 (Add g1 M)) hS36
            have ho126 := ho56.no hS36
            refine dg_sub (E' := [(72, (.bool true)), (5, (.pointer (some ⟨g1, 0, none⟩)))]) ⟨(dpE hd36 22 Z Z), Z, trivial⟩ (dg_on Z Z Z Z (ow_loadOwnA Z Z Z ho126 (Tryd.isAgg27 _) (Tryd.sizeOf27 _) Z ?_))
            have hw27 : VRep RBox w65 (Add g2 (Add g1 M)) ({ Sides := x1.1.Sides } : Box) (.agg #[(.slice A1 x1.1.Sides.length c1)]) := shut_Box (VRep.mono (hz10.trans hl65) hw1)
            exact ⟨BX.refl _ _, hw27⟩
           ·
            intro w66 D hS37 hd37
            have hl66 := Le.no (Add g2 (Add g1 M)) hS37
            have ho128 := ho56.no hS37
            refine dg_sub (E' := [(72, (.bool true)), (5, (.pointer (some ⟨g1, 0, none⟩)))]) ⟨(dpE hd37 22 Z Z), Z, trivial⟩ (dg_on Z Z Z Z (ow_loadOwnA Z Z Z ho128 (Tryd.isAgg27 _) (Tryd.sizeOf27 _) Z ?_))
            have hw28 : VRep RBox w66 (Add g2 (Add g1 M)) ({ Sides := x1.1.Sides } : Box) (.agg #[(.slice A1 x1.1.Sides.length c1)]) := shut_Box (VRep.mono (hz10.trans hl66) hw1)
            exact ⟨BX.refl _ _, hw28⟩
           ·
            intro w67 D hS38 hd38
            have hl67 := Le.no (Add g2 (Add g1 M)) hS38
            have hC67 := hC30.no hS38
            have d68 : PV RBox (Add g2 (Add g1 M)) ({ Sides := x1.1.Sides } : Box) (D 23) w67 := dpA hd38 23 Z
            have d69 : PV RBox (Add g2 (Add g1 M)) ({ Sides := x1.1.Sides } : Box) (D 24) w67 := dpA hd38 24 Z
            generalize hq25 : (D 23) = v60 at d68
            generalize hq26 : (D 24) = v61 at d69
            refine dg_sub (E' := [(73, v60), (74, v61), (72, (.bool true))]) ⟨(congrArg some hq25), (congrArg some hq26), (dpE hd38 22 Z Z), trivial⟩ (dg_on Z Z Z Z (ow_call Z Z Tryd.call28 (w_impl_BoxMeet (hG.mono (hz9.trans hl67)) hC67.old d68 d69 hx14) fun v62 w68 hv62 => ?_))
            obtain ⟨hv62, hb30⟩ := hv62
            exact ⟨hb30, hv62⟩
           ·
            intro w69 D hS39 hd39
            have hl69 := Le.no (Add g2 (Add g1 M)) hS39
            have ho134 := ho56.no hS39
            refine dg_sub (E' := [(72, (.bool true)), (5, (.pointer (some ⟨g1, 0, none⟩)))]) ⟨(dpE hd39 22 Z Z), Z, trivial⟩ (dg_on Z Z Z Z (ow_loadOwnA Z Z Z ho134 (Tryd.isAgg27 _) (Tryd.sizeOf27 _) Z ?_))
            have hw29 : VRep RBox w69 (Add g2 (Add g1 M)) ({ Sides := x1.1.Sides } : Box) (.agg #[(.slice A1 x1.1.Sides.length c1)]) := shut_Box (VRep.mono (hz10.trans hl69) hw1)
            exact ⟨BX.refl _ _, hw29⟩
           ·
            intro w70 D hS40 hd40
            have d98 : PV RBox (Add g2 (Add g1 M)) x14 (D 25) w70 := dpA hd40 25 Z
            have d99 : PV RBox (Add g2 (Add g1 M)) ({ Sides := x1.1.Sides } : Box) (D 26) w70 := dpA hd40 26 Z
            have hl70 := Le.no (Add g2 (Add g1 M)) hS40
            have hC70 := hC30.no hS40
            generalize hq27 : (D 25) = v63 at d98
            generalize hq28 : (D 26) = v64 at d99
            refine lw_sub (E' := [(72, (.bool true)), (75, v63), (76, v64), (4, (.bool false)), (5, (.pointer (some ⟨g1, 0, none⟩))), (6, (.pointer (some ⟨g2, 0, none⟩))), (7, (.pointer (some p1))), (8, (.pointer (some p3)))]) ⟨(dpE hd40 22 Z Z), (congrArg some hq27), (congrArg some hq28), Z, Z, Z, Z, Z, trivial⟩ ?_
            replace h := bind_some h
            obtain ⟨x15, hx15, h⟩ := h
            refine lw_on Z Z Z Z Z Z (ow_call Z Z Tryd.call17 (w_laws_sameBox (hG.mono (hz9.trans hl70)) hC70.old d98 d99 hx15) fun v65 w71 hv65 => ?_)
            obtain ⟨hv65, hb31⟩ := hv65
            have hC71 := hC70.no hb31
            obtain rfl := vbool_eq hv65
            refine lw_op Z Z Z (ow_pickT Z Z Z (lw_op Z Z Z (ow_assign Z Z (lw_nil (ew_then (cw_ret ?_))))))
            obtain rfl := Option.some.inj h
            exact ew_ret (res1 Z (.tmp Z)) ⟨_, Z, ((vbool _)), hC71.bx⟩
          ·
           subst hc9
           have hz15 := ((hz8.trans hl29).trans hl30)
           have hz16 := (((hz7.trans hl28).trans hl29).trans hl30)
           have hz17 := ((((hl25.trans hl26).trans hl28).trans hl29).trans hl30)
           refine cw_sub (E' := [(4, (.bool false)), (5, (.pointer (some ⟨g1, 0, none⟩))), (6, (.pointer (some ⟨g2, 0, none⟩))), (7, (.pointer (some p1))), (8, (.pointer (some p3)))]) ⟨Z, Z, Z, Z, Z, trivial⟩ (cw_drawQ 27 [PV RBox (Add g2 (Add g1 M)) x2, PV RPacket (Add g2 (Add g1 M)) x8, PEq (.bool x9), PV RBox (Add g2 (Add g1 M)) ({ Sides := x1.1.Sides } : Box), PV RPacket (Add g2 (Add g1 M)) x8, PEq (.bool true), PEq (.bool true), PV RBox (Add g2 (Add g1 M)) ({ Sides := x1.2.Sides } : Box), PV RPacket (Add g2 (Add g1 M)) x8, PEq (.bool x11), PEq (.bool x11), PEq (.bool true), PEq (.bool true), PV RBox (Add g2 (Add g1 M)) x2, PV RBox (Add g2 (Add g1 M)) ({ Sides := x1.1.Sides } : Box), PEq (.bool true), PEq (.bool true), PEq (.bool true), PV RBox (Add g2 (Add g1 M)) x2, PV RBox (Add g2 (Add g1 M)) ({ Sides := x1.2.Sides } : Box), PEq (.bool false), PEq (.bool false), PEq (.bool false), PEq undef, PEq undef, PEq undef, PEq undef] (by kernel_rfl) Z (by kernel_rfl) ⟨PV.mono _ _ _, PV.mono _ _ _, PEq.mono _, PV.mono _ _ _, PV.mono _ _ _, PEq.mono _, PEq.mono _, PV.mono _ _ _, PV.mono _ _ _, PEq.mono _, PEq.mono _, PEq.mono _, PEq.mono _, PV.mono _ _ _, PV.mono _ _ _, PEq.mono _, PEq.mono _, PEq.mono _, PV.mono _ _ _, PV.mono _ _ _, PEq.mono _, PEq.mono _, PEq.mono _, PEq.mono _, PEq.mono _, PEq.mono _, PEq.mono _, trivial⟩ ⟨?_, ?_, ?_, ?_, ?_, ?_, ?_, ?_, ?_, ?_, ?_, ?_, ?_, ?_, ?_, ?_, ?_, ?_, ?_, ?_, ?_, ?_, ?_, ?_, ?_, ?_, ?_, trivial⟩ ?_)
           ·
            intro w72 D hS41 hd41
            have hl72 := Le.no (Add g2 (Add g1 M)) hS41
            exact dg_sub (E' := [(7, (.pointer (some p1)))]) ⟨Z, trivial⟩ (dg_plain Z (ow_load (R := RBox) Z Z (ARep.mono (hz17.trans hl72) hp1) (Tryd.sizeOf27 _) (Tryd.isAgg27 _) fun v66 hv66 => ⟨BX.refl _ _, hv66⟩))
           ·
            intro w73 D hS42 hd42
            have hl73 := Le.no (Add g2 (Add g1 M)) hS42
            exact dg_sub (E' := [(8, (.pointer (some p3)))]) ⟨Z, trivial⟩ (dg_plain Z (ow_load (R := RPacket) Z Z (ARep.mono hl73 hp3) (Tryd.sizeOf45 _) (Tryd.isAgg45 _) fun v67 hv67 => ⟨BX.refl _ _, hv67⟩))
           ·
            intro w74 D hS43 hd43
            have hl74 := Le.no (Add g2 (Add g1 M)) hS43
            have hC74 := hC30.no hS43
            have d100 : PV RBox (Add g2 (Add g1 M)) x2 (D 0) w74 := dpA hd43 0 Z
            have d101 : PV RPacket (Add g2 (Add g1 M)) x8 (D 1) w74 := dpA hd43 1 Z
            generalize hq29 : (D 0) = v68 at d100
            generalize hq30 : (D 1) = v69 at d101
            refine dg_sub (E' := [(50, v68), (51, v69)]) ⟨(congrArg some hq29), (congrArg some hq30), trivial⟩ (dg_plain Z (ow_call Z Z Tryd.call31 (w_impl_BoxHas (hG.mono (hz15.trans hl74)) hC74.old d100 d101 hx9) fun v70 w75 hv70 => ?_))
            obtain ⟨hv70, hb32⟩ := hv70
            obtain rfl := vbool_eq hv70
            exact ⟨hb32, Z⟩
           ·
            intro w76 D hS44 hd44
            have hl76 := Le.no (Add g2 (Add g1 M)) hS44
            have ho148 := ho56.no hS44
            refine dg_sub (E' := [(5, (.pointer (some ⟨g1, 0, none⟩)))]) ⟨Z, trivial⟩ (dg_plain Z (ow_loadOwnA Z Z Z ho148 (Tryd.isAgg27 _) (Tryd.sizeOf27 _) Z ?_))
            have hw30 : VRep RBox w76 (Add g2 (Add g1 M)) ({ Sides := x1.1.Sides } : Box) (.agg #[(.slice A1 x1.1.Sides.length c1)]) := shut_Box (VRep.mono (hz16.trans hl76) hw1)
            exact ⟨BX.refl _ _, hw30⟩
           ·
            intro w77 D hS45 hd45
            have hl77 := Le.no (Add g2 (Add g1 M)) hS45
            exact dg_sub (E' := [(8, (.pointer (some p3)))]) ⟨Z, trivial⟩ (dg_plain Z (ow_load (R := RPacket) Z Z (ARep.mono hl77 hp3) (Tryd.sizeOf45 _) (Tryd.isAgg45 _) fun v71 hv71 => ⟨BX.refl _ _, hv71⟩))
           ·
            intro w78 D hS46 hd46
            have hl78 := Le.no (Add g2 (Add g1 M)) hS46
            have hC78 := hC30.no hS46
            have d102 : PV RBox (Add g2 (Add g1 M)) ({ Sides := x1.1.Sides } : Box) (D 3) w78 := dpA hd46 3 Z
            have d103 : PV RPacket (Add g2 (Add g1 M)) x8 (D 4) w78 := dpA hd46 4 Z
            generalize hq31 : (D 3) = v72 at d102
            generalize hq32 : (D 4) = v73 at d103
            refine dg_sub (E' := [(53, v72), (54, v73)]) ⟨(congrArg some hq31), (congrArg some hq32), trivial⟩ (dg_plain Z (ow_call Z Z Tryd.call31 (w_impl_BoxHas (hG.mono (hz15.trans hl78)) hC78.old d102 d103 hx10) fun v74 w79 hv74 => ?_))
            obtain ⟨hv74, hb33⟩ := hv74
            obtain rfl := vbool_eq hv74
            exact ⟨hb33, Z⟩
           ·
            intro w80 D hS47 hd47
            exact dg_sub (E' := [(55, (.bool true))]) ⟨(dpE hd47 5 Z Z), trivial⟩ (dg_plain Z (ow_move Z Z ⟨BX.refl _ _, Z⟩))
           ·
            intro w81 D hS48 hd48
            have hl81 := Le.no (Add g2 (Add g1 M)) hS48
            have ho159 := ho57.no hS48
            refine dg_sub (E' := [(56, (.bool true)), (6, (.pointer (some ⟨g2, 0, none⟩)))]) ⟨(dpE hd48 6 Z Z), Z, trivial⟩ (dg_on Z Z Z Z (ow_loadOwnA Z Z Z ho159 (Tryd.isAgg27 _) (Tryd.sizeOf27 _) Z ?_))
            have hw31 : VRep RBox w81 (Add g2 (Add g1 M)) ({ Sides := x1.2.Sides } : Box) (.agg #[(.slice A2 x1.2.Sides.length c2)]) := shut_Box (VRep.mono (hz16.trans hl81) hw2)
            exact ⟨BX.refl _ _, hw31⟩
           ·
            intro w82 D hS49 hd49
            have hl82 := Le.no (Add g2 (Add g1 M)) hS49
            exact dg_sub (E' := [(56, (.bool true)), (8, (.pointer (some p3)))]) ⟨(dpE hd49 6 Z Z), Z, trivial⟩ (dg_on Z Z Z Z (ow_load (R := RPacket) Z Z (ARep.mono hl82 hp3) (Tryd.sizeOf45 _) (Tryd.isAgg45 _) fun v75 hv75 => ⟨BX.refl _ _, hv75⟩))
           ·
            intro w83 D hS50 hd50
            have hl83 := Le.no (Add g2 (Add g1 M)) hS50
            have hC83 := hC30.no hS50
            have d109 : PV RBox (Add g2 (Add g1 M)) ({ Sides := x1.2.Sides } : Box) (D 7) w83 := dpA hd50 7 Z
            have d110 : PV RPacket (Add g2 (Add g1 M)) x8 (D 8) w83 := dpA hd50 8 Z
            generalize hq33 : (D 7) = v76 at d109
            generalize hq34 : (D 8) = v77 at d110
            refine dg_sub (E' := [(57, v76), (58, v77), (56, (.bool true))]) ⟨(congrArg some hq33), (congrArg some hq34), (dpE hd50 6 Z Z), trivial⟩ (dg_on Z Z Z Z (ow_call Z Z Tryd.call31 (w_impl_BoxHas (hG.mono (hz15.trans hl83)) hC83.old d109 d110 hx11) fun v78 w84 hv78 => ?_))
            obtain ⟨hv78, hb34⟩ := hv78
            obtain rfl := vbool_eq hv78
            exact ⟨hb34, Z⟩
           ·
            intro w85 D hS51 hd51
            have d114 : PEq (.bool x11) (D 9) w85 := dpA hd51 9 Z
            obtain ⟨bb9, hq35, hq36⟩ : ∃ b, b = x11 ∧ (D 9) = .bool b := ⟨_, rfl, d114⟩
            exact dg_sub (E' := [(56, (.bool true)), (59, (.bool bb9))]) ⟨(dpE hd51 6 Z Z), (congrArg some hq36), trivial⟩ (dg_plain Z (ow_pickT Z Z Z ⟨BX.refl _ _, (congrArg Value.bool hq35)⟩))
           ·
            intro w86 D hS52 hd52
            have d115 : PEq (.bool x9) (D 2) w86 := dpA hd52 2 Z
            have d116 : PEq (.bool x11) (D 10) w86 := dpA hd52 10 Z
            obtain ⟨bb10, hq37, hq38⟩ : ∃ b, b = x9 ∧ (D 2) = .bool b := ⟨_, rfl, d115⟩
            obtain ⟨bb11, hq39, hq40⟩ : ∃ b, b = x11 ∧ (D 10) = .bool b := ⟨_, rfl, d116⟩
            refine dg_sub (E' := [(52, (.bool bb10)), (60, (.bool bb11))]) ⟨(congrArg some hq38), (congrArg some hq40), trivial⟩ (dg_plain Z (ow_eqlB Z Z Z Tryd.underlying4 fun bb12 hbb12 => ?_))
            have hbb12' : bb12 = (x9 == x11) := hbb12.trans (by rw [hq37, hq39])
            obtain rfl := hbb12'.trans hc7
            exact ⟨BX.refl _ _, Z⟩
           ·
            intro w87 D hS53 hd53
            exact dg_sub (E' := [(61, (.bool true))]) ⟨(dpE hd53 11 Z Z), trivial⟩ (dg_plain Z (ow_move Z Z ⟨BX.refl _ _, Z⟩))
           ·
            intro w88 D hS54 hd54
            have hl88 := Le.no (Add g2 (Add g1 M)) hS54
            exact dg_sub (E' := [(62, (.bool true)), (7, (.pointer (some p1)))]) ⟨(dpE hd54 12 Z Z), Z, trivial⟩ (dg_on Z Z Z Z (ow_load (R := RBox) Z Z (ARep.mono (hz17.trans hl88) hp1) (Tryd.sizeOf27 _) (Tryd.isAgg27 _) fun v79 hv79 => ⟨BX.refl _ _, hv79⟩))
           ·
            intro w89 D hS55 hd55
            have hl89 := Le.no (Add g2 (Add g1 M)) hS55
            have ho174 := ho56.no hS55
            refine dg_sub (E' := [(62, (.bool true)), (5, (.pointer (some ⟨g1, 0, none⟩)))]) ⟨(dpE hd55 12 Z Z), Z, trivial⟩ (dg_on Z Z Z Z (ow_loadOwnA Z Z Z ho174 (Tryd.isAgg27 _) (Tryd.sizeOf27 _) Z ?_))
            have hw32 : VRep RBox w89 (Add g2 (Add g1 M)) ({ Sides := x1.1.Sides } : Box) (.agg #[(.slice A1 x1.1.Sides.length c1)]) := shut_Box (VRep.mono (hz16.trans hl89) hw1)
            exact ⟨BX.refl _ _, hw32⟩
           ·
            intro w90 D hS56 hd56
            have hl90 := Le.no (Add g2 (Add g1 M)) hS56
            have hC90 := hC30.no hS56
            have d121 : PV RBox (Add g2 (Add g1 M)) x2 (D 13) w90 := dpA hd56 13 Z
            have d122 : PV RBox (Add g2 (Add g1 M)) ({ Sides := x1.1.Sides } : Box) (D 14) w90 := dpA hd56 14 Z
            generalize hq41 : (D 13) = v80 at d121
            generalize hq42 : (D 14) = v81 at d122
            refine dg_sub (E' := [(63, v80), (64, v81), (62, (.bool true))]) ⟨(congrArg some hq41), (congrArg some hq42), (dpE hd56 12 Z Z), trivial⟩ (dg_on Z Z Z Z (ow_call Z Z Tryd.call27 (w_impl_BoxWithin (hG.mono (hz15.trans hl90)) hC90.old d121 d122 hx12) fun v82 w91 hv82 => ?_))
            obtain ⟨hv82, hb35⟩ := hv82
            obtain rfl := vbool_eq hv82
            exact ⟨hb35, Z⟩
           ·
            intro w92 D hS57 hd57
            exact dg_sub (E' := [(62, (.bool true)), (65, (.bool true))]) ⟨(dpE hd57 12 Z Z), (dpE hd57 15 Z Z), trivial⟩ (dg_plain Z (ow_pickT Z Z Z ⟨BX.refl _ _, Z⟩))
           ·
            intro w93 D hS58 hd58
            exact dg_sub (E' := [(66, (.bool true))]) ⟨(dpE hd58 16 Z Z), trivial⟩ (dg_plain Z (ow_move Z Z ⟨BX.refl _ _, Z⟩))
           ·
            intro w94 D hS59 hd59
            have hl94 := Le.no (Add g2 (Add g1 M)) hS59
            exact dg_sub (E' := [(67, (.bool true)), (7, (.pointer (some p1)))]) ⟨(dpE hd59 17 Z Z), Z, trivial⟩ (dg_on Z Z Z Z (ow_load (R := RBox) Z Z (ARep.mono (hz17.trans hl94) hp1) (Tryd.sizeOf27 _) (Tryd.isAgg27 _) fun v83 hv83 => ⟨BX.refl _ _, hv83⟩))
           ·
            intro w95 D hS60 hd60
            have hl95 := Le.no (Add g2 (Add g1 M)) hS60
            have ho187 := ho57.no hS60
            refine dg_sub (E' := [(67, (.bool true)), (6, (.pointer (some ⟨g2, 0, none⟩)))]) ⟨(dpE hd60 17 Z Z), Z, trivial⟩ (dg_on Z Z Z Z (ow_loadOwnA Z Z Z ho187 (Tryd.isAgg27 _) (Tryd.sizeOf27 _) Z ?_))
            have hw33 : VRep RBox w95 (Add g2 (Add g1 M)) ({ Sides := x1.2.Sides } : Box) (.agg #[(.slice A2 x1.2.Sides.length c2)]) := shut_Box (VRep.mono (hz16.trans hl95) hw2)
            exact ⟨BX.refl _ _, hw33⟩
           ·
            intro w96 D hS61 hd61
            have hl96 := Le.no (Add g2 (Add g1 M)) hS61
            have hC96 := hC30.no hS61
            have d131 : PV RBox (Add g2 (Add g1 M)) x2 (D 18) w96 := dpA hd61 18 Z
            have d132 : PV RBox (Add g2 (Add g1 M)) ({ Sides := x1.2.Sides } : Box) (D 19) w96 := dpA hd61 19 Z
            generalize hq43 : (D 18) = v84 at d131
            generalize hq44 : (D 19) = v85 at d132
            refine dg_sub (E' := [(68, v84), (69, v85), (67, (.bool true))]) ⟨(congrArg some hq43), (congrArg some hq44), (dpE hd61 17 Z Z), trivial⟩ (dg_on Z Z Z Z (ow_call Z Z Tryd.call27 (w_impl_BoxWithin (hG.mono (hz15.trans hl96)) hC96.old d131 d132 hx13) fun v86 w97 hv86 => ?_))
            obtain ⟨hv86, hb36⟩ := hv86
            obtain rfl := vbool_eq hv86
            exact ⟨hb36, Z⟩
           ·
            intro w98 D hS62 hd62
            exact dg_sub (E' := [(67, (.bool true)), (70, (.bool false))]) ⟨(dpE hd62 17 Z Z), (dpE hd62 20 Z Z), trivial⟩ (dg_plain Z (ow_pickT Z Z Z ⟨BX.refl _ _, Z⟩))
           ·
            intro w99 D hS63 hd63
            exact dg_sub (E' := [(71, (.bool false))]) ⟨(dpE hd63 21 Z Z), trivial⟩ (dg_plain Z (ow_move Z Z ⟨BX.refl _ _, Z⟩))
           ·
            intro w100 D hS64 hd64
            exact dg_sub (E' := [(72, (.bool false)), (5, (.pointer (some ⟨g1, 0, none⟩)))]) ⟨(dpE hd64 22 Z Z), Z, trivial⟩ (dg_off Z Z Z Z ⟨BX.refl _ _, Z⟩)
           ·
            intro w101 D hS65 hd65
            exact dg_sub (E' := [(72, (.bool false)), (5, (.pointer (some ⟨g1, 0, none⟩)))]) ⟨(dpE hd65 22 Z Z), Z, trivial⟩ (dg_off Z Z Z Z ⟨BX.refl _ _, Z⟩)
           ·
            intro w102 D hS66 hd66
            exact dg_sub (E' := [(73, undef), (74, undef), (72, (.bool false))]) ⟨(dpE hd66 23 Z Z), (dpE hd66 24 Z Z), (dpE hd66 22 Z Z), trivial⟩ (dg_off Z Z Z Z ⟨BX.refl _ _, Z⟩)
           ·
            intro w103 D hS67 hd67
            exact dg_sub (E' := [(72, (.bool false)), (5, (.pointer (some ⟨g1, 0, none⟩)))]) ⟨(dpE hd67 22 Z Z), Z, trivial⟩ (dg_off Z Z Z Z ⟨BX.refl _ _, Z⟩)
           ·
            intro w104 D hS68 hd68
            have hC104 := hC30.no hS68
            refine lw_sub (E' := [(72, (.bool false)), (75, undef), (76, undef), (4, (.bool false)), (5, (.pointer (some ⟨g1, 0, none⟩))), (6, (.pointer (some ⟨g2, 0, none⟩))), (7, (.pointer (some p1))), (8, (.pointer (some p3)))]) ⟨(dpE hd68 22 Z Z), (dpE hd68 25 Z Z), (dpE hd68 26 Z Z), Z, Z, Z, Z, Z, trivial⟩ (lw_off Z Z Z Z Z Z (lw_op Z Z Z (ow_pickF Z Z Z (lw_op Z Z Z (ow_assign Z Z (lw_nil (ew_then (cw_ret ?_))))))))
            obtain rfl := Option.some.inj h
            exact ew_ret (res1 Z (.tmp Z)) ⟨_, Z, ((vbool _)), hC104.bx⟩
         ·
          subst hc8
          have hz21 := ((hz8.trans hl29).trans hl30)
          have hz22 := (((hz7.trans hl28).trans hl29).trans hl30)
          have hz23 := ((((hl25.trans hl26).trans hl28).trans hl29).trans hl30)
          refine cw_sub (E' := [(4, (.bool false)), (5, (.pointer (some ⟨g1, 0, none⟩))), (6, (.pointer (some ⟨g2, 0, none⟩))), (7, (.pointer (some p1))), (8, (.pointer (some p3)))]) ⟨Z, Z, Z, Z, Z, trivial⟩ (cw_drawQ 27 [PV RBox (Add g2 (Add g1 M)) x2, PV RPacket (Add g2 (Add g1 M)) x8, PEq (.bool x9), PV RBox (Add g2 (Add g1 M)) ({ Sides := x1.1.Sides } : Box), PV RPacket (Add g2 (Add g1 M)) x8, PEq (.bool true), PEq (.bool true), PV RBox (Add g2 (Add g1 M)) ({ Sides := x1.2.Sides } : Box), PV RPacket (Add g2 (Add g1 M)) x8, PEq (.bool x11), PEq (.bool x11), PEq (.bool true), PEq (.bool true), PV RBox (Add g2 (Add g1 M)) x2, PV RBox (Add g2 (Add g1 M)) ({ Sides := x1.1.Sides } : Box), PEq (.bool false), PEq (.bool false), PEq (.bool false), PEq undef, PEq undef, PEq undef, PEq (.bool false), PEq (.bool false), PEq undef, PEq undef, PEq undef, PEq undef] (by kernel_rfl) Z (by kernel_rfl) ⟨PV.mono _ _ _, PV.mono _ _ _, PEq.mono _, PV.mono _ _ _, PV.mono _ _ _, PEq.mono _, PEq.mono _, PV.mono _ _ _, PV.mono _ _ _, PEq.mono _, PEq.mono _, PEq.mono _, PEq.mono _, PV.mono _ _ _, PV.mono _ _ _, PEq.mono _, PEq.mono _, PEq.mono _, PEq.mono _, PEq.mono _, PEq.mono _, PEq.mono _, PEq.mono _, PEq.mono _, PEq.mono _, PEq.mono _, PEq.mono _, trivial⟩ ⟨?_, ?_, ?_, ?_, ?_, ?_, ?_, ?_, ?_, ?_, ?_, ?_, ?_, ?_, ?_, ?_, ?_, ?_, ?_, ?_, ?_, ?_, ?_, ?_, ?_, ?_, ?_, trivial⟩ ?_)
          ·
           intro w105 D hS69 hd69
           have hl105 := Le.no (Add g2 (Add g1 M)) hS69
           exact dg_sub (E' := [(7, (.pointer (some p1)))]) ⟨Z, trivial⟩ (dg_plain Z (ow_load (R := RBox) Z Z (ARep.mono (hz23.trans hl105) hp1) (Tryd.sizeOf27 _) (Tryd.isAgg27 _) fun v87 hv87 => ⟨BX.refl _ _, hv87⟩))
          ·
           intro w106 D hS70 hd70
           have hl106 := Le.no (Add g2 (Add g1 M)) hS70
           exact dg_sub (E' := [(8, (.pointer (some p3)))]) ⟨Z, trivial⟩ (dg_plain Z (ow_load (R := RPacket) Z Z (ARep.mono hl106 hp3) (Tryd.sizeOf45 _) (Tryd.isAgg45 _) fun v88 hv88 => ⟨BX.refl _ _, hv88⟩))
          ·
           intro w107 D hS71 hd71
           have hl107 := Le.no (Add g2 (Add g1 M)) hS71
           have hC107 := hC30.no hS71
           have d173 : PV RBox (Add g2 (Add g1 M)) x2 (D 0) w107 := dpA hd71 0 Z
           have d174 : PV RPacket (Add g2 (Add g1 M)) x8 (D 1) w107 := dpA hd71 1 Z
           generalize hq45 : (D 0) = v89 at d173
           generalize hq46 : (D 1) = v90 at d174
           refine dg_sub (E' := [(50, v89), (51, v90)]) ⟨(congrArg some hq45), (congrArg some hq46), trivial⟩ (dg_plain Z (ow_call Z Z Tryd.call31 (w_impl_BoxHas (hG.mono (hz21.trans hl107)) hC107.old d173 d174 hx9) fun v91 w108 hv91 => ?_))
           obtain ⟨hv91, hb37⟩ := hv91
           obtain rfl := vbool_eq hv91
           exact ⟨hb37, Z⟩
          ·
           intro w109 D hS72 hd72
           have hl109 := Le.no (Add g2 (Add g1 M)) hS72
           have ho214 := ho56.no hS72
           refine dg_sub (E' := [(5, (.pointer (some ⟨g1, 0, none⟩)))]) ⟨Z, trivial⟩ (dg_plain Z (ow_loadOwnA Z Z Z ho214 (Tryd.isAgg27 _) (Tryd.sizeOf27 _) Z ?_))
           have hw34 : VRep RBox w109 (Add g2 (Add g1 M)) ({ Sides := x1.1.Sides } : Box) (.agg #[(.slice A1 x1.1.Sides.length c1)]) := shut_Box (VRep.mono (hz22.trans hl109) hw1)
           exact ⟨BX.refl _ _, hw34⟩
          ·
           intro w110 D hS73 hd73
           have hl110 := Le.no (Add g2 (Add g1 M)) hS73
           exact dg_sub (E' := [(8, (.pointer (some p3)))]) ⟨Z, trivial⟩ (dg_plain Z (ow_load (R := RPacket) Z Z (ARep.mono hl110 hp3) (Tryd.sizeOf45 _) (Tryd.isAgg45 _) fun v92 hv92 => ⟨BX.refl _ _, hv92⟩))
          ·
           intro w111 D hS74 hd74
           have hl111 := Le.no (Add g2 (Add g1 M)) hS74
           have hC111 := hC30.no hS74
           have d175 : PV RBox (Add g2 (Add g1 M)) ({ Sides := x1.1.Sides } : Box) (D 3) w111 := dpA hd74 3 Z
           have d176 : PV RPacket (Add g2 (Add g1 M)) x8 (D 4) w111 := dpA hd74 4 Z
           generalize hq47 : (D 3) = v93 at d175
           generalize hq48 : (D 4) = v94 at d176
           refine dg_sub (E' := [(53, v93), (54, v94)]) ⟨(congrArg some hq47), (congrArg some hq48), trivial⟩ (dg_plain Z (ow_call Z Z Tryd.call31 (w_impl_BoxHas (hG.mono (hz21.trans hl111)) hC111.old d175 d176 hx10) fun v95 w112 hv95 => ?_))
           obtain ⟨hv95, hb38⟩ := hv95
           obtain rfl := vbool_eq hv95
           exact ⟨hb38, Z⟩
          ·
           intro w113 D hS75 hd75
           exact dg_sub (E' := [(55, (.bool true))]) ⟨(dpE hd75 5 Z Z), trivial⟩ (dg_plain Z (ow_move Z Z ⟨BX.refl _ _, Z⟩))
          ·
           intro w114 D hS76 hd76
           have hl114 := Le.no (Add g2 (Add g1 M)) hS76
           have ho225 := ho57.no hS76
           refine dg_sub (E' := [(56, (.bool true)), (6, (.pointer (some ⟨g2, 0, none⟩)))]) ⟨(dpE hd76 6 Z Z), Z, trivial⟩ (dg_on Z Z Z Z (ow_loadOwnA Z Z Z ho225 (Tryd.isAgg27 _) (Tryd.sizeOf27 _) Z ?_))
           have hw35 : VRep RBox w114 (Add g2 (Add g1 M)) ({ Sides := x1.2.Sides } : Box) (.agg #[(.slice A2 x1.2.Sides.length c2)]) := shut_Box (VRep.mono (hz22.trans hl114) hw2)
           exact ⟨BX.refl _ _, hw35⟩
          ·
           intro w115 D hS77 hd77
           have hl115 := Le.no (Add g2 (Add g1 M)) hS77
           exact dg_sub (E' := [(56, (.bool true)), (8, (.pointer (some p3)))]) ⟨(dpE hd77 6 Z Z), Z, trivial⟩ (dg_on Z Z Z Z (ow_load (R := RPacket) Z Z (ARep.mono hl115 hp3) (Tryd.sizeOf45 _) (Tryd.isAgg45 _) fun v96 hv96 => ⟨BX.refl _ _, hv96⟩))
          ·
           intro w116 D hS78 hd78
           have hl116 := Le.no (Add g2 (Add g1 M)) hS78
           have hC116 := hC30.no hS78
           have d182 : PV RBox (Add g2 (Add g1 M)) ({ Sides := x1.2.Sides } : Box) (D 7) w116 := dpA hd78 7 Z
           have d183 : PV RPacket (Add g2 (Add g1 M)) x8 (D 8) w116 := dpA hd78 8 Z
           generalize hq49 : (D 7) = v97 at d182
           generalize hq50 : (D 8) = v98 at d183
           refine dg_sub (E' := [(57, v97), (58, v98), (56, (.bool true))]) ⟨(congrArg some hq49), (congrArg some hq50), (dpE hd78 6 Z Z), trivial⟩ (dg_on Z Z Z Z (ow_call Z Z Tryd.call31 (w_impl_BoxHas (hG.mono (hz21.trans hl116)) hC116.old d182 d183 hx11) fun v99 w117 hv99 => ?_))
           obtain ⟨hv99, hb39⟩ := hv99
           obtain rfl := vbool_eq hv99
           exact ⟨hb39, Z⟩
          ·
           intro w118 D hS79 hd79
           have d187 : PEq (.bool x11) (D 9) w118 := dpA hd79 9 Z
           obtain ⟨bb13, hq51, hq52⟩ : ∃ b, b = x11 ∧ (D 9) = .bool b := ⟨_, rfl, d187⟩
           exact dg_sub (E' := [(56, (.bool true)), (59, (.bool bb13))]) ⟨(dpE hd79 6 Z Z), (congrArg some hq52), trivial⟩ (dg_plain Z (ow_pickT Z Z Z ⟨BX.refl _ _, (congrArg Value.bool hq51)⟩))
          ·
           intro w119 D hS80 hd80
           have d188 : PEq (.bool x9) (D 2) w119 := dpA hd80 2 Z
           have d189 : PEq (.bool x11) (D 10) w119 := dpA hd80 10 Z
           obtain ⟨bb14, hq53, hq54⟩ : ∃ b, b = x9 ∧ (D 2) = .bool b := ⟨_, rfl, d188⟩
           obtain ⟨bb15, hq55, hq56⟩ : ∃ b, b = x11 ∧ (D 10) = .bool b := ⟨_, rfl, d189⟩
           refine dg_sub (E' := [(52, (.bool bb14)), (60, (.bool bb15))]) ⟨(congrArg some hq54), (congrArg some hq56), trivial⟩ (dg_plain Z (ow_eqlB Z Z Z Tryd.underlying4 fun bb16 hbb16 => ?_))
           have hbb16' : bb16 = (x9 == x11) := hbb16.trans (by rw [hq53, hq55])
           obtain rfl := hbb16'.trans hc7
           exact ⟨BX.refl _ _, Z⟩
          ·
           intro w120 D hS81 hd81
           exact dg_sub (E' := [(61, (.bool true))]) ⟨(dpE hd81 11 Z Z), trivial⟩ (dg_plain Z (ow_move Z Z ⟨BX.refl _ _, Z⟩))
          ·
           intro w121 D hS82 hd82
           have hl121 := Le.no (Add g2 (Add g1 M)) hS82
           exact dg_sub (E' := [(62, (.bool true)), (7, (.pointer (some p1)))]) ⟨(dpE hd82 12 Z Z), Z, trivial⟩ (dg_on Z Z Z Z (ow_load (R := RBox) Z Z (ARep.mono (hz23.trans hl121) hp1) (Tryd.sizeOf27 _) (Tryd.isAgg27 _) fun v100 hv100 => ⟨BX.refl _ _, hv100⟩))
          ·
           intro w122 D hS83 hd83
           have hl122 := Le.no (Add g2 (Add g1 M)) hS83
           have ho240 := ho56.no hS83
           refine dg_sub (E' := [(62, (.bool true)), (5, (.pointer (some ⟨g1, 0, none⟩)))]) ⟨(dpE hd83 12 Z Z), Z, trivial⟩ (dg_on Z Z Z Z (ow_loadOwnA Z Z Z ho240 (Tryd.isAgg27 _) (Tryd.sizeOf27 _) Z ?_))
           have hw36 : VRep RBox w122 (Add g2 (Add g1 M)) ({ Sides := x1.1.Sides } : Box) (.agg #[(.slice A1 x1.1.Sides.length c1)]) := shut_Box (VRep.mono (hz22.trans hl122) hw1)
           exact ⟨BX.refl _ _, hw36⟩
          ·
           intro w123 D hS84 hd84
           have hl123 := Le.no (Add g2 (Add g1 M)) hS84
           have hC123 := hC30.no hS84
           have d194 : PV RBox (Add g2 (Add g1 M)) x2 (D 13) w123 := dpA hd84 13 Z
           have d195 : PV RBox (Add g2 (Add g1 M)) ({ Sides := x1.1.Sides } : Box) (D 14) w123 := dpA hd84 14 Z
           generalize hq57 : (D 13) = v101 at d194
           generalize hq58 : (D 14) = v102 at d195
           refine dg_sub (E' := [(63, v101), (64, v102), (62, (.bool true))]) ⟨(congrArg some hq57), (congrArg some hq58), (dpE hd84 12 Z Z), trivial⟩ (dg_on Z Z Z Z (ow_call Z Z Tryd.call27 (w_impl_BoxWithin (hG.mono (hz21.trans hl123)) hC123.old d194 d195 hx12) fun v103 w124 hv103 => ?_))
           obtain ⟨hv103, hb40⟩ := hv103
           obtain rfl := vbool_eq hv103
           exact ⟨hb40, Z⟩
          ·
           intro w125 D hS85 hd85
           exact dg_sub (E' := [(62, (.bool true)), (65, (.bool false))]) ⟨(dpE hd85 12 Z Z), (dpE hd85 15 Z Z), trivial⟩ (dg_plain Z (ow_pickT Z Z Z ⟨BX.refl _ _, Z⟩))
          ·
           intro w126 D hS86 hd86
           exact dg_sub (E' := [(66, (.bool false))]) ⟨(dpE hd86 16 Z Z), trivial⟩ (dg_plain Z (ow_move Z Z ⟨BX.refl _ _, Z⟩))
          ·
           intro w127 D hS87 hd87
           exact dg_sub (E' := [(67, (.bool false)), (7, (.pointer (some p1)))]) ⟨(dpE hd87 17 Z Z), Z, trivial⟩ (dg_off Z Z Z Z ⟨BX.refl _ _, Z⟩)
          ·
           intro w128 D hS88 hd88
           exact dg_sub (E' := [(67, (.bool false)), (6, (.pointer (some ⟨g2, 0, none⟩)))]) ⟨(dpE hd88 17 Z Z), Z, trivial⟩ (dg_off Z Z Z Z ⟨BX.refl _ _, Z⟩)
          ·
           intro w129 D hS89 hd89
           exact dg_sub (E' := [(68, undef), (69, undef), (67, (.bool false))]) ⟨(dpE hd89 18 Z Z), (dpE hd89 19 Z Z), (dpE hd89 17 Z Z), trivial⟩ (dg_off Z Z Z Z ⟨BX.refl _ _, Z⟩)
          ·
           intro w130 D hS90 hd90
           exact dg_sub (E' := [(67, (.bool false)), (70, undef)]) ⟨(dpE hd90 17 Z Z), (dpE hd90 20 Z Z), trivial⟩ (dg_plain Z (ow_pickF Z Z Z ⟨BX.refl _ _, Z⟩))
          ·
           intro w131 D hS91 hd91
           exact dg_sub (E' := [(71, (.bool false))]) ⟨(dpE hd91 21 Z Z), trivial⟩ (dg_plain Z (ow_move Z Z ⟨BX.refl _ _, Z⟩))
          ·
           intro w132 D hS92 hd92
           exact dg_sub (E' := [(72, (.bool false)), (5, (.pointer (some ⟨g1, 0, none⟩)))]) ⟨(dpE hd92 22 Z Z), Z, trivial⟩ (dg_off Z Z Z Z ⟨BX.refl _ _, Z⟩)
          ·
           intro w133 D hS93 hd93
           exact dg_sub (E' := [(72, (.bool false)), (5, (.pointer (some ⟨g1, 0, none⟩)))]) ⟨(dpE hd93 22 Z Z), Z, trivial⟩ (dg_off Z Z Z Z ⟨BX.refl _ _, Z⟩)
          ·
           intro w134 D hS94 hd94
           exact dg_sub (E' := [(73, undef), (74, undef), (72, (.bool false))]) ⟨(dpE hd94 23 Z Z), (dpE hd94 24 Z Z), (dpE hd94 22 Z Z), trivial⟩ (dg_off Z Z Z Z ⟨BX.refl _ _, Z⟩)
          ·
           intro w135 D hS95 hd95
           exact dg_sub (E' := [(72, (.bool false)), (5, (.pointer (some ⟨g1, 0, none⟩)))]) ⟨(dpE hd95 22 Z Z), Z, trivial⟩ (dg_off Z Z Z Z ⟨BX.refl _ _, Z⟩)
          ·
           intro w136 D hS96 hd96
           have hC136 := hC30.no hS96
           refine lw_sub (E' := [(72, (.bool false)), (75, undef), (76, undef), (4, (.bool false)), (5, (.pointer (some ⟨g1, 0, none⟩))), (6, (.pointer (some ⟨g2, 0, none⟩))), (7, (.pointer (some p1))), (8, (.pointer (some p3)))]) ⟨(dpE hd96 22 Z Z), (dpE hd96 25 Z Z), (dpE hd96 26 Z Z), Z, Z, Z, Z, Z, trivial⟩ (lw_off Z Z Z Z Z Z (lw_op Z Z Z (ow_pickF Z Z Z (lw_op Z Z Z (ow_assign Z Z (lw_nil (ew_then (cw_ret ?_))))))))
           obtain rfl := Option.some.inj h
           exact ew_ret (res1 Z (.tmp Z)) ⟨_, Z, ((vbool _)), hC136.bx⟩
        ·
         have hz27 := ((hz8.trans hl29).trans hl30)
         have hz28 := (((hz7.trans hl28).trans hl29).trans hl30)
         have hz29 := ((((hl25.trans hl26).trans hl28).trans hl29).trans hl30)
         refine cw_sub (E' := [(4, (.bool false)), (5, (.pointer (some ⟨g1, 0, none⟩))), (6, (.pointer (some ⟨g2, 0, none⟩))), (7, (.pointer (some p1))), (8, (.pointer (some p3)))]) ⟨Z, Z, Z, Z, Z, trivial⟩ (cw_drawQ 27 [PV RBox (Add g2 (Add g1 M)) x2, PV RPacket (Add g2 (Add g1 M)) x8, PEq (.bool x9), PV RBox (Add g2 (Add g1 M)) ({ Sides := x1.1.Sides } : Box), PV RPacket (Add g2 (Add g1 M)) x8, PEq (.bool true), PEq (.bool true), PV RBox (Add g2 (Add g1 M)) ({ Sides := x1.2.Sides } : Box), PV RPacket (Add g2 (Add g1 M)) x8, PEq (.bool x11), PEq (.bool x11), PEq (.bool false), PEq (.bool false), PEq undef, PEq undef, PEq undef, PEq (.bool false), PEq (.bool false), PEq undef, PEq undef, PEq undef, PEq (.bool false), PEq (.bool false), PEq undef, PEq undef, PEq undef, PEq undef] (by kernel_rfl) Z (by kernel_rfl) ⟨PV.mono _ _ _, PV.mono _ _ _, PEq.mono _, PV.mono _ _ _, PV.mono _ _ _, PEq.mono _, PEq.mono _, PV.mono _ _ _, PV.mono _ _ _, PEq.mono _, PEq.mono _, PEq.mono _, PEq.mono _, PEq.mono _, PEq.mono _, PEq.mono _, PEq.mono _, PEq.mono _, PEq.mono _, PEq.mono _, PEq.mono _, PEq.mono _, PEq.mono _, PEq.mono _, PEq.mono _, PEq.mono _, PEq.mono _, trivial⟩ ⟨?_, ?_, ?_, ?_, ?_, ?_, ?_, ?_, ?_, ?_, ?_, ?_, ?_, ?_, ?_, ?_, ?_, ?_, ?_, ?_, ?_, ?_, ?_, ?_, ?_, ?_, ?_, trivial⟩ ?_)
         ·
          intro w137 D hS97 hd97
          have hl137 := Le.no (Add g2 (Add g1 M)) hS97
          exact dg_sub (E' := [(7, (.pointer (some p1)))]) ⟨Z, trivial⟩ (dg_plain Z (ow_load (R := RBox) Z Z (ARep.mono (hz29.trans hl137) hp1) (Tryd.sizeOf27 _) (Tryd.isAgg27 _) fun v104 hv104 => ⟨BX.refl _ _, hv104⟩))
         ·
          intro w138 D hS98 hd98
          have hl138 := Le.no (Add g2 (Add g1 M)) hS98
          exact dg_sub (E' := [(8, (.pointer (some p3)))]) ⟨Z, trivial⟩ (dg_plain Z (ow_load (R := RPacket) Z Z (ARep.mono hl138 hp3) (Tryd.sizeOf45 _) (Tryd.isAgg45 _) fun v105 hv105 => ⟨BX.refl _ _, hv105⟩))
         ·
          intro w139 D hS99 hd99
          have hl139 := Le.no (Add g2 (Add g1 M)) hS99
          have hC139 := hC30.no hS99
          have d246 : PV RBox (Add g2 (Add g1 M)) x2 (D 0) w139 := dpA hd99 0 Z
          have d247 : PV RPacket (Add g2 (Add g1 M)) x8 (D 1) w139 := dpA hd99 1 Z
          generalize hq59 : (D 0) = v106 at d246
          generalize hq60 : (D 1) = v107 at d247
          refine dg_sub (E' := [(50, v106), (51, v107)]) ⟨(congrArg some hq59), (congrArg some hq60), trivial⟩ (dg_plain Z (ow_call Z Z Tryd.call31 (w_impl_BoxHas (hG.mono (hz27.trans hl139)) hC139.old d246 d247 hx9) fun v108 w140 hv108 => ?_))
          obtain ⟨hv108, hb41⟩ := hv108
          obtain rfl := vbool_eq hv108
          exact ⟨hb41, Z⟩
         ·
          intro w141 D hS100 hd100
          have hl141 := Le.no (Add g2 (Add g1 M)) hS100
          have ho278 := ho56.no hS100
          refine dg_sub (E' := [(5, (.pointer (some ⟨g1, 0, none⟩)))]) ⟨Z, trivial⟩ (dg_plain Z (ow_loadOwnA Z Z Z ho278 (Tryd.isAgg27 _) (Tryd.sizeOf27 _) Z ?_))
          have hw37 : VRep RBox w141 (Add g2 (Add g1 M)) ({ Sides := x1.1.Sides } : Box) (.agg #[(.slice A1 x1.1.Sides.length c1)]) := shut_Box (VRep.mono (hz28.trans hl141) hw1)
          exact ⟨BX.refl _ _, hw37⟩
         ·
          intro w142 D hS101 hd101
          have hl142 := Le.no (Add g2 (Add g1 M)) hS101
          exact dg_sub (E' := [(8, (.pointer (some p3)))]) ⟨Z, trivial⟩ (dg_plain Z (ow_load (R := RPacket) Z Z (ARep.mono hl142 hp3) (Tryd.sizeOf45 _) (Tryd.isAgg45 _) fun v109 hv109 => ⟨BX.refl _ _, hv109⟩))
         ·
          intro w143 D hS102 hd102
          have hl143 := Le.no (Add g2 (Add g1 M)) hS102
          have hC143 := hC30.no hS102
          have d248 : PV RBox (Add g2 (Add g1 M)) ({ Sides := x1.1.Sides } : Box) (D 3) w143 := dpA hd102 3 Z
          have d249 : PV RPacket (Add g2 (Add g1 M)) x8 (D 4) w143 := dpA hd102 4 Z
          generalize hq61 : (D 3) = v110 at d248
          generalize hq62 : (D 4) = v111 at d249
          refine dg_sub (E' := [(53, v110), (54, v111)]) ⟨(congrArg some hq61), (congrArg some hq62), trivial⟩ (dg_plain Z (ow_call Z Z Tryd.call31 (w_impl_BoxHas (hG.mono (hz27.trans hl143)) hC143.old d248 d249 hx10) fun v112 w144 hv112 => ?_))
          obtain ⟨hv112, hb42⟩ := hv112
          obtain rfl := vbool_eq hv112
          exact ⟨hb42, Z⟩
         ·
          intro w145 D hS103 hd103
          exact dg_sub (E' := [(55, (.bool true))]) ⟨(dpE hd103 5 Z Z), trivial⟩ (dg_plain Z (ow_move Z Z ⟨BX.refl _ _, Z⟩))
         ·
          intro w146 D hS104 hd104
          have hl146 := Le.no (Add g2 (Add g1 M)) hS104
          have ho289 := ho57.no hS104
          refine dg_sub (E' := [(56, (.bool true)), (6, (.pointer (some ⟨g2, 0, none⟩)))]) ⟨(dpE hd104 6 Z Z), Z, trivial⟩ (dg_on Z Z Z Z (ow_loadOwnA Z Z Z ho289 (Tryd.isAgg27 _) (Tryd.sizeOf27 _) Z ?_))
          have hw38 : VRep RBox w146 (Add g2 (Add g1 M)) ({ Sides := x1.2.Sides } : Box) (.agg #[(.slice A2 x1.2.Sides.length c2)]) := shut_Box (VRep.mono (hz28.trans hl146) hw2)
          exact ⟨BX.refl _ _, hw38⟩
         ·
          intro w147 D hS105 hd105
          have hl147 := Le.no (Add g2 (Add g1 M)) hS105
          exact dg_sub (E' := [(56, (.bool true)), (8, (.pointer (some p3)))]) ⟨(dpE hd105 6 Z Z), Z, trivial⟩ (dg_on Z Z Z Z (ow_load (R := RPacket) Z Z (ARep.mono hl147 hp3) (Tryd.sizeOf45 _) (Tryd.isAgg45 _) fun v113 hv113 => ⟨BX.refl _ _, hv113⟩))
         ·
          intro w148 D hS106 hd106
          have hl148 := Le.no (Add g2 (Add g1 M)) hS106
          have hC148 := hC30.no hS106
          have d255 : PV RBox (Add g2 (Add g1 M)) ({ Sides := x1.2.Sides } : Box) (D 7) w148 := dpA hd106 7 Z
          have d256 : PV RPacket (Add g2 (Add g1 M)) x8 (D 8) w148 := dpA hd106 8 Z
          generalize hq63 : (D 7) = v114 at d255
          generalize hq64 : (D 8) = v115 at d256
          refine dg_sub (E' := [(57, v114), (58, v115), (56, (.bool true))]) ⟨(congrArg some hq63), (congrArg some hq64), (dpE hd106 6 Z Z), trivial⟩ (dg_on Z Z Z Z (ow_call Z Z Tryd.call31 (w_impl_BoxHas (hG.mono (hz27.trans hl148)) hC148.old d255 d256 hx11) fun v116 w149 hv116 => ?_))
          obtain ⟨hv116, hb43⟩ := hv116
          obtain rfl := vbool_eq hv116
          exact ⟨hb43, Z⟩
         ·
          intro w150 D hS107 hd107
          have d260 : PEq (.bool x11) (D 9) w150 := dpA hd107 9 Z
          obtain ⟨bb17, hq65, hq66⟩ : ∃ b, b = x11 ∧ (D 9) = .bool b := ⟨_, rfl, d260⟩
          exact dg_sub (E' := [(56, (.bool true)), (59, (.bool bb17))]) ⟨(dpE hd107 6 Z Z), (congrArg some hq66), trivial⟩ (dg_plain Z (ow_pickT Z Z Z ⟨BX.refl _ _, (congrArg Value.bool hq65)⟩))
         ·
          intro w151 D hS108 hd108
          have d261 : PEq (.bool x9) (D 2) w151 := dpA hd108 2 Z
          have d262 : PEq (.bool x11) (D 10) w151 := dpA hd108 10 Z
          obtain ⟨bb18, hq67, hq68⟩ : ∃ b, b = x9 ∧ (D 2) = .bool b := ⟨_, rfl, d261⟩
          obtain ⟨bb19, hq69, hq70⟩ : ∃ b, b = x11 ∧ (D 10) = .bool b := ⟨_, rfl, d262⟩
          refine dg_sub (E' := [(52, (.bool bb18)), (60, (.bool bb19))]) ⟨(congrArg some hq68), (congrArg some hq70), trivial⟩ (dg_plain Z (ow_eqlB Z Z Z Tryd.underlying4 fun bb20 hbb20 => ?_))
          have hbb20' : bb20 = (x9 == x11) := hbb20.trans (by rw [hq67, hq69])
          obtain rfl := hbb20'.trans hc7
          exact ⟨BX.refl _ _, Z⟩
         ·
          intro w152 D hS109 hd109
          exact dg_sub (E' := [(61, (.bool false))]) ⟨(dpE hd109 11 Z Z), trivial⟩ (dg_plain Z (ow_move Z Z ⟨BX.refl _ _, Z⟩))
         ·
          intro w153 D hS110 hd110
          exact dg_sub (E' := [(62, (.bool false)), (7, (.pointer (some p1)))]) ⟨(dpE hd110 12 Z Z), Z, trivial⟩ (dg_off Z Z Z Z ⟨BX.refl _ _, Z⟩)
         ·
          intro w154 D hS111 hd111
          exact dg_sub (E' := [(62, (.bool false)), (5, (.pointer (some ⟨g1, 0, none⟩)))]) ⟨(dpE hd111 12 Z Z), Z, trivial⟩ (dg_off Z Z Z Z ⟨BX.refl _ _, Z⟩)
         ·
          intro w155 D hS112 hd112
          exact dg_sub (E' := [(63, undef), (64, undef), (62, (.bool false))]) ⟨(dpE hd112 13 Z Z), (dpE hd112 14 Z Z), (dpE hd112 12 Z Z), trivial⟩ (dg_off Z Z Z Z ⟨BX.refl _ _, Z⟩)
         ·
          intro w156 D hS113 hd113
          exact dg_sub (E' := [(62, (.bool false)), (65, undef)]) ⟨(dpE hd113 12 Z Z), (dpE hd113 15 Z Z), trivial⟩ (dg_plain Z (ow_pickF Z Z Z ⟨BX.refl _ _, Z⟩))
         ·
          intro w157 D hS114 hd114
          exact dg_sub (E' := [(66, (.bool false))]) ⟨(dpE hd114 16 Z Z), trivial⟩ (dg_plain Z (ow_move Z Z ⟨BX.refl _ _, Z⟩))
         ·
          intro w158 D hS115 hd115
          exact dg_sub (E' := [(67, (.bool false)), (7, (.pointer (some p1)))]) ⟨(dpE hd115 17 Z Z), Z, trivial⟩ (dg_off Z Z Z Z ⟨BX.refl _ _, Z⟩)
         ·
          intro w159 D hS116 hd116
          exact dg_sub (E' := [(67, (.bool false)), (6, (.pointer (some ⟨g2, 0, none⟩)))]) ⟨(dpE hd116 17 Z Z), Z, trivial⟩ (dg_off Z Z Z Z ⟨BX.refl _ _, Z⟩)
         ·
          intro w160 D hS117 hd117
          exact dg_sub (E' := [(68, undef), (69, undef), (67, (.bool false))]) ⟨(dpE hd117 18 Z Z), (dpE hd117 19 Z Z), (dpE hd117 17 Z Z), trivial⟩ (dg_off Z Z Z Z ⟨BX.refl _ _, Z⟩)
         ·
          intro w161 D hS118 hd118
          exact dg_sub (E' := [(67, (.bool false)), (70, undef)]) ⟨(dpE hd118 17 Z Z), (dpE hd118 20 Z Z), trivial⟩ (dg_plain Z (ow_pickF Z Z Z ⟨BX.refl _ _, Z⟩))
         ·
          intro w162 D hS119 hd119
          exact dg_sub (E' := [(71, (.bool false))]) ⟨(dpE hd119 21 Z Z), trivial⟩ (dg_plain Z (ow_move Z Z ⟨BX.refl _ _, Z⟩))
         ·
          intro w163 D hS120 hd120
          exact dg_sub (E' := [(72, (.bool false)), (5, (.pointer (some ⟨g1, 0, none⟩)))]) ⟨(dpE hd120 22 Z Z), Z, trivial⟩ (dg_off Z Z Z Z ⟨BX.refl _ _, Z⟩)
         ·
          intro w164 D hS121 hd121
          exact dg_sub (E' := [(72, (.bool false)), (5, (.pointer (some ⟨g1, 0, none⟩)))]) ⟨(dpE hd121 22 Z Z), Z, trivial⟩ (dg_off Z Z Z Z ⟨BX.refl _ _, Z⟩)
         ·
          intro w165 D hS122 hd122
          exact dg_sub (E' := [(73, undef), (74, undef), (72, (.bool false))]) ⟨(dpE hd122 23 Z Z), (dpE hd122 24 Z Z), (dpE hd122 22 Z Z), trivial⟩ (dg_off Z Z Z Z ⟨BX.refl _ _, Z⟩)
         ·
          intro w166 D hS123 hd123
          exact dg_sub (E' := [(72, (.bool false)), (5, (.pointer (some ⟨g1, 0, none⟩)))]) ⟨(dpE hd123 22 Z Z), Z, trivial⟩ (dg_off Z Z Z Z ⟨BX.refl _ _, Z⟩)
         ·
          intro w167 D hS124 hd124
          have hC167 := hC30.no hS124
          refine lw_sub (E' := [(72, (.bool false)), (75, undef), (76, undef), (4, (.bool false)), (5, (.pointer (some ⟨g1, 0, none⟩))), (6, (.pointer (some ⟨g2, 0, none⟩))), (7, (.pointer (some p1))), (8, (.pointer (some p3)))]) ⟨(dpE hd124 22 Z Z), (dpE hd124 25 Z Z), (dpE hd124 26 Z Z), Z, Z, Z, Z, Z, trivial⟩ (lw_off Z Z Z Z Z Z (lw_op Z Z Z (ow_pickF Z Z Z (lw_op Z Z Z (ow_assign Z Z (lw_nil (ew_then (cw_ret ?_))))))))
          obtain rfl := Option.some.inj h
          exact ew_ret (res1 Z (.tmp Z)) ⟨_, Z, ((vbool _)), hC167.bx⟩
       ·
        subst hc6
        replace h := cond_some h
        rcases h with ⟨hc10, h⟩ | ⟨hc10, h⟩
        ·
         replace h := bind_some h
         obtain ⟨x16, hx16, h⟩ := h
         replace h := cond_some h
         rcases h with ⟨hc11, h⟩ | ⟨hc11, h⟩
         ·
          subst hc11
          replace h := bind_some h
          obtain ⟨x17, hx17, h⟩ := h
          replace h := cond_some h
          rcases h with ⟨hc12, h⟩ | ⟨hc12, h⟩
          ·
           subst hc12
           replace h := bind_some h
           obtain ⟨x18, hx18, h⟩ := h
           have hz33 := ((hz8.trans hl29).trans hl30)
           have hz34 := (((hz7.trans hl28).trans hl29).trans hl30)
           have hz35 := ((((hl25.trans hl26).trans hl28).trans hl29).trans hl30)
           refine cw_sub (E' := [(4, (.bool false)), (5, (.pointer (some ⟨g1, 0, none⟩))), (6, (.pointer (some ⟨g2, 0, none⟩))), (7, (.pointer (some p1))), (8, (.pointer (some p3)))]) ⟨Z, Z, Z, Z, Z, trivial⟩ (cw_drawQ 27 [PV RBox (Add g2 (Add g1 M)) x2, PV RPacket (Add g2 (Add g1 M)) x8, PEq (.bool x9), PV RBox (Add g2 (Add g1 M)) ({ Sides := x1.1.Sides } : Box), PV RPacket (Add g2 (Add g1 M)) x8, PEq (.bool false), PEq (.bool false), PEq undef, PEq undef, PEq undef, PEq (.bool false), PEq (.bool true), PEq (.bool true), PV RBox (Add g2 (Add g1 M)) x2, PV RBox (Add g2 (Add g1 M)) ({ Sides := x1.1.Sides } : Box), PEq (.bool true), PEq (.bool true), PEq (.bool true), PV RBox (Add g2 (Add g1 M)) x2, PV RBox (Add g2 (Add g1 M)) ({ Sides := x1.2.Sides } : Box), PEq (.bool true), PEq (.bool true), PEq (.bool true), PV RBox (Add g2 (Add g1 M)) ({ Sides := x1.1.Sides } : Box), PV RBox (Add g2 (Add g1 M)) ({ Sides := x1.1.Sides } : Box), PV RBox (Add g2 (Add g1 M)) x18, PV RBox (Add g2 (Add g1 M)) ({ Sides := x1.1.Sides } : Box)] (by kernel_rfl) Z (by kernel_rfl) ⟨PV.mono _ _ _, PV.mono _ _ _, PEq.mono _, PV.mono _ _ _, PV.mono _ _ _, PEq.mono _, PEq.mono _, PEq.mono _, PEq.mono _, PEq.mono _, PEq.mono _, PEq.mono _, PEq.mono _, PV.mono _ _ _, PV.mono _ _ _, PEq.mono _, PEq.mono _, PEq.mono _, PV.mono _ _ _, PV.mono _ _ _, PEq.mono _, PEq.mono _, PEq.mono _, PV.mono _ _ _, PV.mono _ _ _, PV.mono _ _ _, PV.mono _ _ _, trivial⟩ ⟨?_, ?_, ?_, ?_, ?_, ?_, ?_, ?_, ?_, ?_, ?_, ?_, ?_, ?_, ?_, ?_, ?_, ?_, ?_, ?_, ?_, ?_, ?_, ?_, ?_, ?_, ?_, trivial⟩ ?_)
           ·
            intro w171 D hS125 hd125
            have hl171 := Le.no (Add g2 (Add g1 M)) hS125
            exact dg_sub (E' := [(7, (.pointer (some p1)))]) ⟨Z, trivial⟩ (dg_plain Z (ow_load (R := RBox) Z Z (ARep.mono (hz35.trans hl171) hp1) (Tryd.sizeOf27 _) (Tryd.isAgg27 _) fun v122 hv122 => ⟨BX.refl _ _, hv122⟩))
           ·
            intro w172 D hS126 hd126
            have hl172 := Le.no (Add g2 (Add g1 M)) hS126
            exact dg_sub (E' := [(8, (.pointer (some p3)))]) ⟨Z, trivial⟩ (dg_plain Z (ow_load (R := RPacket) Z Z (ARep.mono hl172 hp3) (Tryd.sizeOf45 _) (Tryd.isAgg45 _) fun v123 hv123 => ⟨BX.refl _ _, hv123⟩))
           ·
            intro w173 D hS127 hd127
            have hl173 := Le.no (Add g2 (Add g1 M)) hS127
            have hC173 := hC30.no hS127
            have d319 : PV RBox (Add g2 (Add g1 M)) x2 (D 0) w173 := dpA hd127 0 Z
            have d320 : PV RPacket (Add g2 (Add g1 M)) x8 (D 1) w173 := dpA hd127 1 Z
            generalize hq71 : (D 0) = v124 at d319
            generalize hq72 : (D 1) = v125 at d320
            refine dg_sub (E' := [(50, v124), (51, v125)]) ⟨(congrArg some hq71), (congrArg some hq72), trivial⟩ (dg_plain Z (ow_call Z Z Tryd.call31 (w_impl_BoxHas (hG.mono (hz33.trans hl173)) hC173.old d319 d320 hx9) fun v126 w174 hv126 => ?_))
            obtain ⟨hv126, hb47⟩ := hv126
            obtain rfl := vbool_eq hv126
            exact ⟨hb47, Z⟩
           ·
            intro w175 D hS128 hd128
            have hl175 := Le.no (Add g2 (Add g1 M)) hS128
            have ho346 := ho56.no hS128
            refine dg_sub (E' := [(5, (.pointer (some ⟨g1, 0, none⟩)))]) ⟨Z, trivial⟩ (dg_plain Z (ow_loadOwnA Z Z Z ho346 (Tryd.isAgg27 _) (Tryd.sizeOf27 _) Z ?_))
            have hw44 : VRep RBox w175 (Add g2 (Add g1 M)) ({ Sides := x1.1.Sides } : Box) (.agg #[(.slice A1 x1.1.Sides.length c1)]) := shut_Box (VRep.mono (hz34.trans hl175) hw1)
            exact ⟨BX.refl _ _, hw44⟩
           ·
            intro w176 D hS129 hd129
            have hl176 := Le.no (Add g2 (Add g1 M)) hS129
            exact dg_sub (E' := [(8, (.pointer (some p3)))]) ⟨Z, trivial⟩ (dg_plain Z (ow_load (R := RPacket) Z Z (ARep.mono hl176 hp3) (Tryd.sizeOf45 _) (Tryd.isAgg45 _) fun v127 hv127 => ⟨BX.refl _ _, hv127⟩))
           ·
            intro w177 D hS130 hd130
            have hl177 := Le.no (Add g2 (Add g1 M)) hS130
            have hC177 := hC30.no hS130
            have d321 : PV RBox (Add g2 (Add g1 M)) ({ Sides := x1.1.Sides } : Box) (D 3) w177 := dpA hd130 3 Z
            have d322 : PV RPacket (Add g2 (Add g1 M)) x8 (D 4) w177 := dpA hd130 4 Z
            generalize hq73 : (D 3) = v128 at d321
            generalize hq74 : (D 4) = v129 at d322
            refine dg_sub (E' := [(53, v128), (54, v129)]) ⟨(congrArg some hq73), (congrArg some hq74), trivial⟩ (dg_plain Z (ow_call Z Z Tryd.call31 (w_impl_BoxHas (hG.mono (hz33.trans hl177)) hC177.old d321 d322 hx10) fun v130 w178 hv130 => ?_))
            obtain ⟨hv130, hb48⟩ := hv130
            obtain rfl := vbool_eq hv130
            exact ⟨hb48, Z⟩
           ·
            intro w179 D hS131 hd131
            exact dg_sub (E' := [(55, (.bool false))]) ⟨(dpE hd131 5 Z Z), trivial⟩ (dg_plain Z (ow_move Z Z ⟨BX.refl _ _, Z⟩))
           ·
            intro w180 D hS132 hd132
            exact dg_sub (E' := [(56, (.bool false)), (6, (.pointer (some ⟨g2, 0, none⟩)))]) ⟨(dpE hd132 6 Z Z), Z, trivial⟩ (dg_off Z Z Z Z ⟨BX.refl _ _, Z⟩)
           ·
            intro w181 D hS133 hd133
            exact dg_sub (E' := [(56, (.bool false)), (8, (.pointer (some p3)))]) ⟨(dpE hd133 6 Z Z), Z, trivial⟩ (dg_off Z Z Z Z ⟨BX.refl _ _, Z⟩)
           ·
            intro w182 D hS134 hd134
            exact dg_sub (E' := [(57, undef), (58, undef), (56, (.bool false))]) ⟨(dpE hd134 7 Z Z), (dpE hd134 8 Z Z), (dpE hd134 6 Z Z), trivial⟩ (dg_off Z Z Z Z ⟨BX.refl _ _, Z⟩)
           ·
            intro w183 D hS135 hd135
            exact dg_sub (E' := [(56, (.bool false)), (59, undef)]) ⟨(dpE hd135 6 Z Z), (dpE hd135 9 Z Z), trivial⟩ (dg_plain Z (ow_pickF Z Z Z ⟨BX.refl _ _, Z⟩))
           ·
            intro w184 D hS136 hd136
            have d334 : PEq (.bool x9) (D 2) w184 := dpA hd136 2 Z
            obtain ⟨bb22, hq75, hq76⟩ : ∃ b, b = x9 ∧ (D 2) = .bool b := ⟨_, rfl, d334⟩
            refine dg_sub (E' := [(52, (.bool bb22)), (60, (.bool false))]) ⟨(congrArg some hq76), (dpE hd136 10 Z Z), trivial⟩ (dg_plain Z (ow_eqlB Z Z Z Tryd.underlying4 fun bb23 hbb23 => ?_))
            have hbb23' : bb23 = (x9 == false) := hbb23.trans (by rw [hq75])
            obtain rfl := hbb23'.trans hc10
            exact ⟨BX.refl _ _, Z⟩
           ·
            intro w185 D hS137 hd137
            exact dg_sub (E' := [(61, (.bool true))]) ⟨(dpE hd137 11 Z Z), trivial⟩ (dg_plain Z (ow_move Z Z ⟨BX.refl _ _, Z⟩))
           ·
            intro w186 D hS138 hd138
            have hl186 := Le.no (Add g2 (Add g1 M)) hS138
            exact dg_sub (E' := [(62, (.bool true)), (7, (.pointer (some p1)))]) ⟨(dpE hd138 12 Z Z), Z, trivial⟩ (dg_on Z Z Z Z (ow_load (R := RBox) Z Z (ARep.mono (hz35.trans hl186) hp1) (Tryd.sizeOf27 _) (Tryd.isAgg27 _) fun v131 hv131 => ⟨BX.refl _ _, hv131⟩))
           ·
            intro w187 D hS139 hd139
            have hl187 := Le.no (Add g2 (Add g1 M)) hS139
            have ho370 := ho56.no hS139
            refine dg_sub (E' := [(62, (.bool true)), (5, (.pointer (some ⟨g1, 0, none⟩)))]) ⟨(dpE hd139 12 Z Z), Z, trivial⟩ (dg_on Z Z Z Z (ow_loadOwnA Z Z Z ho370 (Tryd.isAgg27 _) (Tryd.sizeOf27 _) Z ?_))
            have hw45 : VRep RBox w187 (Add g2 (Add g1 M)) ({ Sides := x1.1.Sides } : Box) (.agg #[(.slice A1 x1.1.Sides.length c1)]) := shut_Box (VRep.mono (hz34.trans hl187) hw1)
            exact ⟨BX.refl _ _, hw45⟩
           ·
            intro w188 D hS140 hd140
            have hl188 := Le.no (Add g2 (Add g1 M)) hS140
            have hC188 := hC30.no hS140
            have d340 : PV RBox (Add g2 (Add g1 M)) x2 (D 13) w188 := dpA hd140 13 Z
            have d341 : PV RBox (Add g2 (Add g1 M)) ({ Sides := x1.1.Sides } : Box) (D 14) w188 := dpA hd140 14 Z
            generalize hq77 : (D 13) = v132 at d340
            generalize hq78 : (D 14) = v133 at d341
            refine dg_sub (E' := [(63, v132), (64, v133), (62, (.bool true))]) ⟨(congrArg some hq77), (congrArg some hq78), (dpE hd140 12 Z Z), trivial⟩ (dg_on Z Z Z Z (ow_call Z Z Tryd.call27 (w_impl_BoxWithin (hG.mono (hz33.trans hl188)) hC188.old d340 d341 hx16) fun v134 w189 hv134 => ?_))
            obtain ⟨hv134, hb49⟩ := hv134
            obtain rfl := vbool_eq hv134
            exact ⟨hb49, Z⟩
           ·
            intro w190 D hS141 hd141
            exact dg_sub (E' := [(62, (.bool true)), (65, (.bool true))]) ⟨(dpE hd141 12 Z Z), (dpE hd141 15 Z Z), trivial⟩ (dg_plain Z (ow_pickT Z Z Z ⟨BX.refl _ _, Z⟩))
           ·
            intro w191 D hS142 hd142
            exact dg_sub (E' := [(66, (.bool true))]) ⟨(dpE hd142 16 Z Z), trivial⟩ (dg_plain Z (ow_move Z Z ⟨BX.refl _ _, Z⟩))
           ·
            intro w192 D hS143 hd143
            have hl192 := Le.no (Add g2 (Add g1 M)) hS143
            exact dg_sub (E' := [(67, (.bool true)), (7, (.pointer (some p1)))]) ⟨(dpE hd143 17 Z Z), Z, trivial⟩ (dg_on Z Z Z Z (ow_load (R := RBox) Z Z (ARep.mono (hz35.trans hl192) hp1) (Tryd.sizeOf27 _) (Tryd.isAgg27 _) fun v135 hv135 => ⟨BX.refl _ _, hv135⟩))
           ·
            intro w193 D hS144 hd144
            have hl193 := Le.no (Add g2 (Add g1 M)) hS144
            have ho383 := ho57.no hS144
            refine dg_sub (E' := [(67, (.bool true)), (6, (.pointer (some ⟨g2, 0, none⟩)))]) ⟨(dpE hd144 17 Z Z), Z, trivial⟩ (dg_on Z Z Z Z (ow_loadOwnA Z Z Z ho383 (Tryd.isAgg27 _) (Tryd.sizeOf27 _) Z ?_))
            have hw46 : VRep RBox w193 (Add g2 (Add g1 M)) ({ Sides := x1.2.Sides } : Box) (.agg #[(.slice A2 x1.2.Sides.length c2)]) := shut_Box (VRep.mono (hz34.trans hl193) hw2)
            exact ⟨BX.refl _ _, hw46⟩
           ·
            intro w194 D hS145 hd145
            have hl194 := Le.no (Add g2 (Add g1 M)) hS145
            have hC194 := hC30.no hS145
            have d350 : PV RBox (Add g2 (Add g1 M)) x2 (D 18) w194 := dpA hd145 18 Z
            have d351 : PV RBox (Add g2 (Add g1 M)) ({ Sides := x1.2.Sides } : Box) (D 19) w194 := dpA hd145 19 Z
            generalize hq79 : (D 18) = v136 at d350
            generalize hq80 : (D 19) = v137 at d351
            refine dg_sub (E' := [(68, v136), (69, v137), (67, (.bool true))]) ⟨(congrArg some hq79), (congrArg some hq80), (dpE hd145 17 Z Z), trivial⟩ (dg_on Z Z Z Z (ow_call Z Z Tryd.call27 (w_impl_BoxWithin (hG.mono (hz33.trans hl194)) hC194.old d350 d351 hx17) fun v138 w195 hv138 => ?_))
            obtain ⟨hv138, hb50⟩ := hv138
            obtain rfl := vbool_eq hv138
            exact ⟨hb50, Z⟩
           ·
            intro w196 D hS146 hd146
            exact dg_sub (E' := [(67, (.bool true)), (70, (.bool true))]) ⟨(dpE hd146 17 Z Z), (dpE hd146 20 Z Z), trivial⟩ (dg_plain Z (ow_pickT Z Z Z ⟨BX.refl _ _, Z⟩))
           ·
            intro w197 D hS147 hd147
            exact dg_sub (E' := [(71, (.bool true))]) ⟨(dpE hd147 21 Z Z), trivial⟩ (dg_plain Z (ow_move Z Z ⟨BX.refl _ _, Z⟩))
           ·
            intro w198 D hS148 hd148
            have hl198 := Le.no (Add g2 (Add g1 M)) hS148
            have ho392 := ho56.no hS148
            refine dg_sub (E' := [(72, (.bool true)), (5, (.pointer (some ⟨g1, 0, none⟩)))]) ⟨(dpE hd148 22 Z Z), Z, trivial⟩ (dg_on Z Z Z Z (ow_loadOwnA Z Z Z ho392 (Tryd.isAgg27 _) (Tryd.sizeOf27 _) Z ?_))
            have hw47 : VRep RBox w198 (Add g2 (Add g1 M)) ({ Sides := x1.1.Sides } : Box) (.agg #[(.slice A1 x1.1.Sides.length c1)]) := shut_Box (VRep.mono (hz34.trans hl198) hw1)
            exact ⟨BX.refl _ _, hw47⟩
           ·
            intro w199 D hS149 hd149
            have hl199 := Le.no (Add g2 (Add g1 M)) hS149
            have ho394 := ho56.no hS149
            refine dg_sub (E' := [(72, (.bool true)), (5, (.pointer (some ⟨g1, 0, none⟩)))]) ⟨(dpE hd149 22 Z Z), Z, trivial⟩ (dg_on Z Z Z Z (ow_loadOwnA Z Z Z ho394 (Tryd.isAgg27 _) (Tryd.sizeOf27 _) Z ?_))
            have hw48 : VRep RBox w199 (Add g2 (Add g1 M)) ({ Sides := x1.1.Sides } : Box) (.agg #[(.slice A1 x1.1.Sides.length c1)]) := shut_Box (VRep.mono (hz34.trans hl199) hw1)
            exact ⟨BX.refl _ _, hw48⟩
           ·
            intro w200 D hS150 hd150
            have hl200 := Le.no (Add g2 (Add g1 M)) hS150
            have hC200 := hC30.no hS150
            have d360 : PV RBox (Add g2 (Add g1 M)) ({ Sides := x1.1.Sides } : Box) (D 23) w200 := dpA hd150 23 Z
            have d361 : PV RBox (Add g2 (Add g1 M)) ({ Sides := x1.1.Sides } : Box) (D 24) w200 := dpA hd150 24 Z
            generalize hq81 : (D 23) = v139 at d360
            generalize hq82 : (D 24) = v140 at d361
            refine dg_sub (E' := [(73, v139), (74, v140), (72, (.bool true))]) ⟨(congrArg some hq81), (congrArg some hq82), (dpE hd150 22 Z Z), trivial⟩ (dg_on Z Z Z Z (ow_call Z Z Tryd.call28 (w_impl_BoxMeet (hG.mono (hz33.trans hl200)) hC200.old d360 d361 hx18) fun v141 w201 hv141 => ?_))
            obtain ⟨hv141, hb51⟩ := hv141
            exact ⟨hb51, hv141⟩
           ·
            intro w202 D hS151 hd151
            have hl202 := Le.no (Add g2 (Add g1 M)) hS151
            have ho400 := ho56.no hS151
            refine dg_sub (E' := [(72, (.bool true)), (5, (.pointer (some ⟨g1, 0, none⟩)))]) ⟨(dpE hd151 22 Z Z), Z, trivial⟩ (dg_on Z Z Z Z (ow_loadOwnA Z Z Z ho400 (Tryd.isAgg27 _) (Tryd.sizeOf27 _) Z ?_))
            have hw49 : VRep RBox w202 (Add g2 (Add g1 M)) ({ Sides := x1.1.Sides } : Box) (.agg #[(.slice A1 x1.1.Sides.length c1)]) := shut_Box (VRep.mono (hz34.trans hl202) hw1)
            exact ⟨BX.refl _ _, hw49⟩
           ·
            intro w203 D hS152 hd152
            have d390 : PV RBox (Add g2 (Add g1 M)) x18 (D 25) w203 := dpA hd152 25 Z
            have d391 : PV RBox (Add g2 (Add g1 M)) ({ Sides := x1.1.Sides } : Box) (D 26) w203 := dpA hd152 26 Z
            have hl203 := Le.no (Add g2 (Add g1 M)) hS152
            have hC203 := hC30.no hS152
            generalize hq83 : (D 25) = v142 at d390
            generalize hq84 : (D 26) = v143 at d391
            refine lw_sub (E' := [(72, (.bool true)), (75, v142), (76, v143), (4, (.bool false)), (5, (.pointer (some ⟨g1, 0, none⟩))), (6, (.pointer (some ⟨g2, 0, none⟩))), (7, (.pointer (some p1))), (8, (.pointer (some p3)))]) ⟨(dpE hd152 22 Z Z), (congrArg some hq83), (congrArg some hq84), Z, Z, Z, Z, Z, trivial⟩ ?_
            replace h := bind_some h
            obtain ⟨x19, hx19, h⟩ := h
            refine lw_on Z Z Z Z Z Z (ow_call Z Z Tryd.call17 (w_laws_sameBox (hG.mono (hz33.trans hl203)) hC203.old d390 d391 hx19) fun v144 w204 hv144 => ?_)
            obtain ⟨hv144, hb52⟩ := hv144
            have hC204 := hC203.no hb52
            obtain rfl := vbool_eq hv144
            refine lw_op Z Z Z (ow_pickT Z Z Z (lw_op Z Z Z (ow_assign Z Z (lw_nil (ew_then (cw_ret ?_))))))
            obtain rfl := Option.some.inj h
            exact ew_ret (res1 Z (.tmp Z)) ⟨_, Z, ((vbool _)), hC204.bx⟩
          ·
           subst hc12
           have hz39 := ((hz8.trans hl29).trans hl30)
           have hz40 := (((hz7.trans hl28).trans hl29).trans hl30)
           have hz41 := ((((hl25.trans hl26).trans hl28).trans hl29).trans hl30)
           refine cw_sub (E' := [(4, (.bool false)), (5, (.pointer (some ⟨g1, 0, none⟩))), (6, (.pointer (some ⟨g2, 0, none⟩))), (7, (.pointer (some p1))), (8, (.pointer (some p3)))]) ⟨Z, Z, Z, Z, Z, trivial⟩ (cw_drawQ 27 [PV RBox (Add g2 (Add g1 M)) x2, PV RPacket (Add g2 (Add g1 M)) x8, PEq (.bool x9), PV RBox (Add g2 (Add g1 M)) ({ Sides := x1.1.Sides } : Box), PV RPacket (Add g2 (Add g1 M)) x8, PEq (.bool false), PEq (.bool false), PEq undef, PEq undef, PEq undef, PEq (.bool false), PEq (.bool true), PEq (.bool true), PV RBox (Add g2 (Add g1 M)) x2, PV RBox (Add g2 (Add g1 M)) ({ Sides := x1.1.Sides } : Box), PEq (.bool true), PEq (.bool true), PEq (.bool true), PV RBox (Add g2 (Add g1 M)) x2, PV RBox (Add g2 (Add g1 M)) ({ Sides := x1.2.Sides } : Box), PEq (.bool false), PEq (.bool false), PEq (.bool false), PEq undef, PEq undef, PEq undef, PEq undef] (by kernel_rfl) Z (by kernel_rfl) ⟨PV.mono _ _ _, PV.mono _ _ _, PEq.mono _, PV.mono _ _ _, PV.mono _ _ _, PEq.mono _, PEq.mono _, PEq.mono _, PEq.mono _, PEq.mono _, PEq.mono _, PEq.mono _, PEq.mono _, PV.mono _ _ _, PV.mono _ _ _, PEq.mono _, PEq.mono _, PEq.mono _, PV.mono _ _ _, PV.mono _ _ _, PEq.mono _, PEq.mono _, PEq.mono _, PEq.mono _, PEq.mono _, PEq.mono _, PEq.mono _, trivial⟩ ⟨?_, ?_, ?_, ?_, ?_, ?_, ?_, ?_, ?_, ?_, ?_, ?_, ?_, ?_, ?_, ?_, ?_, ?_, ?_, ?_, ?_, ?_, ?_, ?_, ?_, ?_, ?_, trivial⟩ ?_)
           ·
            intro w205 D hS153 hd153
            have hl205 := Le.no (Add g2 (Add g1 M)) hS153
            exact dg_sub (E' := [(7, (.pointer (some p1)))]) ⟨Z, trivial⟩ (dg_plain Z (ow_load (R := RBox) Z Z (ARep.mono (hz41.trans hl205) hp1) (Tryd.sizeOf27 _) (Tryd.isAgg27 _) fun v145 hv145 => ⟨BX.refl _ _, hv145⟩))
           ·
            intro w206 D hS154 hd154
            have hl206 := Le.no (Add g2 (Add g1 M)) hS154
            exact dg_sub (E' := [(8, (.pointer (some p3)))]) ⟨Z, trivial⟩ (dg_plain Z (ow_load (R := RPacket) Z Z (ARep.mono hl206 hp3) (Tryd.sizeOf45 _) (Tryd.isAgg45 _) fun v146 hv146 => ⟨BX.refl _ _, hv146⟩))
           ·
            intro w207 D hS155 hd155
            have hl207 := Le.no (Add g2 (Add g1 M)) hS155
            have hC207 := hC30.no hS155
            have d392 : PV RBox (Add g2 (Add g1 M)) x2 (D 0) w207 := dpA hd155 0 Z
            have d393 : PV RPacket (Add g2 (Add g1 M)) x8 (D 1) w207 := dpA hd155 1 Z
            generalize hq85 : (D 0) = v147 at d392
            generalize hq86 : (D 1) = v148 at d393
            refine dg_sub (E' := [(50, v147), (51, v148)]) ⟨(congrArg some hq85), (congrArg some hq86), trivial⟩ (dg_plain Z (ow_call Z Z Tryd.call31 (w_impl_BoxHas (hG.mono (hz39.trans hl207)) hC207.old d392 d393 hx9) fun v149 w208 hv149 => ?_))
            obtain ⟨hv149, hb53⟩ := hv149
            obtain rfl := vbool_eq hv149
            exact ⟨hb53, Z⟩
           ·
            intro w209 D hS156 hd156
            have hl209 := Le.no (Add g2 (Add g1 M)) hS156
            have ho414 := ho56.no hS156
            refine dg_sub (E' := [(5, (.pointer (some ⟨g1, 0, none⟩)))]) ⟨Z, trivial⟩ (dg_plain Z (ow_loadOwnA Z Z Z ho414 (Tryd.isAgg27 _) (Tryd.sizeOf27 _) Z ?_))
            have hw50 : VRep RBox w209 (Add g2 (Add g1 M)) ({ Sides := x1.1.Sides } : Box) (.agg #[(.slice A1 x1.1.Sides.length c1)]) := shut_Box (VRep.mono (hz40.trans hl209) hw1)
            exact ⟨BX.refl _ _, hw50⟩
           ·
            intro w210 D hS157 hd157
            have hl210 := Le.no (Add g2 (Add g1 M)) hS157
            exact dg_sub (E' := [(8, (.pointer (some p3)))]) ⟨Z, trivial⟩ (dg_plain Z (ow_load (R := RPacket) Z Z (ARep.mono hl210 hp3) (Tryd.sizeOf45 _) (Tryd.isAgg45 _) fun v150 hv150 => ⟨BX.refl _ _, hv150⟩))
           ·
            intro w211 D hS158 hd158
            have hl211 := Le.no (Add g2 (Add g1 M)) hS158
            have hC211 := hC30.no hS158
            have d394 : PV RBox (Add g2 (Add g1 M)) ({ Sides := x1.1.Sides } : Box) (D 3) w211 := dpA hd158 3 Z
            have d395 : PV RPacket (Add g2 (Add g1 M)) x8 (D 4) w211 := dpA hd158 4 Z
            generalize hq87 : (D 3) = v151 at d394
            generalize hq88 : (D 4) = v152 at d395
            refine dg_sub (E' := [(53, v151), (54, v152)]) ⟨(congrArg some hq87), (congrArg some hq88), trivial⟩ (dg_plain Z (ow_call Z Z Tryd.call31 (w_impl_BoxHas (hG.mono (hz39.trans hl211)) hC211.old d394 d395 hx10) fun v153 w212 hv153 => ?_))
            obtain ⟨hv153, hb54⟩ := hv153
            obtain rfl := vbool_eq hv153
            exact ⟨hb54, Z⟩
           ·
            intro w213 D hS159 hd159
            exact dg_sub (E' := [(55, (.bool false))]) ⟨(dpE hd159 5 Z Z), trivial⟩ (dg_plain Z (ow_move Z Z ⟨BX.refl _ _, Z⟩))
           ·
            intro w214 D hS160 hd160
            exact dg_sub (E' := [(56, (.bool false)), (6, (.pointer (some ⟨g2, 0, none⟩)))]) ⟨(dpE hd160 6 Z Z), Z, trivial⟩ (dg_off Z Z Z Z ⟨BX.refl _ _, Z⟩)
           ·
            intro w215 D hS161 hd161
            exact dg_sub (E' := [(56, (.bool false)), (8, (.pointer (some p3)))]) ⟨(dpE hd161 6 Z Z), Z, trivial⟩ (dg_off Z Z Z Z ⟨BX.refl _ _, Z⟩)
           ·
            intro w216 D hS162 hd162
            exact dg_sub (E' := [(57, undef), (58, undef), (56, (.bool false))]) ⟨(dpE hd162 7 Z Z), (dpE hd162 8 Z Z), (dpE hd162 6 Z Z), trivial⟩ (dg_off Z Z Z Z ⟨BX.refl _ _, Z⟩)
           ·
            intro w217 D hS163 hd163
            exact dg_sub (E' := [(56, (.bool false)), (59, undef)]) ⟨(dpE hd163 6 Z Z), (dpE hd163 9 Z Z), trivial⟩ (dg_plain Z (ow_pickF Z Z Z ⟨BX.refl _ _, Z⟩))
           ·
            intro w218 D hS164 hd164
            have d407 : PEq (.bool x9) (D 2) w218 := dpA hd164 2 Z
            obtain ⟨bb24, hq89, hq90⟩ : ∃ b, b = x9 ∧ (D 2) = .bool b := ⟨_, rfl, d407⟩
            refine dg_sub (E' := [(52, (.bool bb24)), (60, (.bool false))]) ⟨(congrArg some hq90), (dpE hd164 10 Z Z), trivial⟩ (dg_plain Z (ow_eqlB Z Z Z Tryd.underlying4 fun bb25 hbb25 => ?_))
            have hbb25' : bb25 = (x9 == false) := hbb25.trans (by rw [hq89])
            obtain rfl := hbb25'.trans hc10
            exact ⟨BX.refl _ _, Z⟩
           ·
            intro w219 D hS165 hd165
            exact dg_sub (E' := [(61, (.bool true))]) ⟨(dpE hd165 11 Z Z), trivial⟩ (dg_plain Z (ow_move Z Z ⟨BX.refl _ _, Z⟩))
           ·
            intro w220 D hS166 hd166
            have hl220 := Le.no (Add g2 (Add g1 M)) hS166
            exact dg_sub (E' := [(62, (.bool true)), (7, (.pointer (some p1)))]) ⟨(dpE hd166 12 Z Z), Z, trivial⟩ (dg_on Z Z Z Z (ow_load (R := RBox) Z Z (ARep.mono (hz41.trans hl220) hp1) (Tryd.sizeOf27 _) (Tryd.isAgg27 _) fun v154 hv154 => ⟨BX.refl _ _, hv154⟩))
           ·
            intro w221 D hS167 hd167
            have hl221 := Le.no (Add g2 (Add g1 M)) hS167
            have ho438 := ho56.no hS167
            refine dg_sub (E' := [(62, (.bool true)), (5, (.pointer (some ⟨g1, 0, none⟩)))]) ⟨(dpE hd167 12 Z Z), Z, trivial⟩ (dg_on Z Z Z Z (ow_loadOwnA Z Z Z ho438 (Tryd.isAgg27 _) (Tryd.sizeOf27 _) Z ?_))
            have hw51 : VRep RBox w221 (Add g2 (Add g1 M)) ({ Sides := x1.1.Sides } : Box) (.agg #[(.slice A1 x1.1.Sides.length c1)]) := shut_Box (VRep.mono (hz40.trans hl221) hw1)
            exact ⟨BX.refl _ _, hw51⟩
           ·
            intro w222 D hS168 hd168
            have hl222 := Le.no (Add g2 (Add g1 M)) hS168
            have hC222 := hC30.no hS168
            have d413 : PV RBox (Add g2 (Add g1 M)) x2 (D 13) w222 := dpA hd168 13 Z
            have d414 : PV RBox (Add g2 (Add g1 M)) ({ Sides := x1.1.Sides } : Box) (D 14) w222 := dpA hd168 14 Z
            generalize hq91 : (D 13) = v155 at d413
            generalize hq92 : (D 14) = v156 at d414
            refine dg_sub (E' := [(63, v155), (64, v156), (62, (.bool true))]) ⟨(congrArg some hq91), (congrArg some hq92), (dpE hd168 12 Z Z), trivial⟩ (dg_on Z Z Z Z (ow_call Z Z Tryd.call27 (w_impl_BoxWithin (hG.mono (hz39.trans hl222)) hC222.old d413 d414 hx16) fun v157 w223 hv157 => ?_))
            obtain ⟨hv157, hb55⟩ := hv157
            obtain rfl := vbool_eq hv157
            exact ⟨hb55, Z⟩
           ·
            intro w224 D hS169 hd169
            exact dg_sub (E' := [(62, (.bool true)), (65, (.bool true))]) ⟨(dpE hd169 12 Z Z), (dpE hd169 15 Z Z), trivial⟩ (dg_plain Z (ow_pickT Z Z Z ⟨BX.refl _ _, Z⟩))
           ·
            intro w225 D hS170 hd170
            exact dg_sub (E' := [(66, (.bool true))]) ⟨(dpE hd170 16 Z Z), trivial⟩ (dg_plain Z (ow_move Z Z ⟨BX.refl _ _, Z⟩))
           ·
            intro w226 D hS171 hd171
            have hl226 := Le.no (Add g2 (Add g1 M)) hS171
            exact dg_sub (E' := [(67, (.bool true)), (7, (.pointer (some p1)))]) ⟨(dpE hd171 17 Z Z), Z, trivial⟩ (dg_on Z Z Z Z (ow_load (R := RBox) Z Z (ARep.mono (hz41.trans hl226) hp1) (Tryd.sizeOf27 _) (Tryd.isAgg27 _) fun v158 hv158 => ⟨BX.refl _ _, hv158⟩))
           ·
            intro w227 D hS172 hd172
            have hl227 := Le.no (Add g2 (Add g1 M)) hS172
            have ho451 := ho57.no hS172
            refine dg_sub (E' := [(67, (.bool true)), (6, (.pointer (some ⟨g2, 0, none⟩)))]) ⟨(dpE hd172 17 Z Z), Z, trivial⟩ (dg_on Z Z Z Z (ow_loadOwnA Z Z Z ho451 (Tryd.isAgg27 _) (Tryd.sizeOf27 _) Z ?_))
            have hw52 : VRep RBox w227 (Add g2 (Add g1 M)) ({ Sides := x1.2.Sides } : Box) (.agg #[(.slice A2 x1.2.Sides.length c2)]) := shut_Box (VRep.mono (hz40.trans hl227) hw2)
            exact ⟨BX.refl _ _, hw52⟩
           ·
            intro w228 D hS173 hd173
            have hl228 := Le.no (Add g2 (Add g1 M)) hS173
            have hC228 := hC30.no hS173
            have d423 : PV RBox (Add g2 (Add g1 M)) x2 (D 18) w228 := dpA hd173 18 Z
            have d424 : PV RBox (Add g2 (Add g1 M)) ({ Sides := x1.2.Sides } : Box) (D 19) w228 := dpA hd173 19 Z
            generalize hq93 : (D 18) = v159 at d423
            generalize hq94 : (D 19) = v160 at d424
            refine dg_sub (E' := [(68, v159), (69, v160), (67, (.bool true))]) ⟨(congrArg some hq93), (congrArg some hq94), (dpE hd173 17 Z Z), trivial⟩ (dg_on Z Z Z Z (ow_call Z Z Tryd.call27 (w_impl_BoxWithin (hG.mono (hz39.trans hl228)) hC228.old d423 d424 hx17) fun v161 w229 hv161 => ?_))
            obtain ⟨hv161, hb56⟩ := hv161
            obtain rfl := vbool_eq hv161
            exact ⟨hb56, Z⟩
           ·
            intro w230 D hS174 hd174
            exact dg_sub (E' := [(67, (.bool true)), (70, (.bool false))]) ⟨(dpE hd174 17 Z Z), (dpE hd174 20 Z Z), trivial⟩ (dg_plain Z (ow_pickT Z Z Z ⟨BX.refl _ _, Z⟩))
           ·
            intro w231 D hS175 hd175
            exact dg_sub (E' := [(71, (.bool false))]) ⟨(dpE hd175 21 Z Z), trivial⟩ (dg_plain Z (ow_move Z Z ⟨BX.refl _ _, Z⟩))
           ·
            intro w232 D hS176 hd176
            exact dg_sub (E' := [(72, (.bool false)), (5, (.pointer (some ⟨g1, 0, none⟩)))]) ⟨(dpE hd176 22 Z Z), Z, trivial⟩ (dg_off Z Z Z Z ⟨BX.refl _ _, Z⟩)
           ·
            intro w233 D hS177 hd177
            exact dg_sub (E' := [(72, (.bool false)), (5, (.pointer (some ⟨g1, 0, none⟩)))]) ⟨(dpE hd177 22 Z Z), Z, trivial⟩ (dg_off Z Z Z Z ⟨BX.refl _ _, Z⟩)
           ·
            intro w234 D hS178 hd178
            exact dg_sub (E' := [(73, undef), (74, undef), (72, (.bool false))]) ⟨(dpE hd178 23 Z Z), (dpE hd178 24 Z Z), (dpE hd178 22 Z Z), trivial⟩ (dg_off Z Z Z Z ⟨BX.refl _ _, Z⟩)
           ·
            intro w235 D hS179 hd179
            exact dg_sub (E' := [(72, (.bool false)), (5, (.pointer (some ⟨g1, 0, none⟩)))]) ⟨(dpE hd179 22 Z Z), Z, trivial⟩ (dg_off Z Z Z Z ⟨BX.refl _ _, Z⟩)
           ·
            intro w236 D hS180 hd180
            have hC236 := hC30.no hS180
            refine lw_sub (E' := [(72, (.bool false)), (75, undef), (76, undef), (4, (.bool false)), (5, (.pointer (some ⟨g1, 0, none⟩))), (6, (.pointer (some ⟨g2, 0, none⟩))), (7, (.pointer (some p1))), (8, (.pointer (some p3)))]) ⟨(dpE hd180 22 Z Z), (dpE hd180 25 Z Z), (dpE hd180 26 Z Z), Z, Z, Z, Z, Z, trivial⟩ (lw_off Z Z Z Z Z Z (lw_op Z Z Z (ow_pickF Z Z Z (lw_op Z Z Z (ow_assign Z Z (lw_nil (ew_then (cw_ret ?_))))))))
            obtain rfl := Option.some.inj h
            exact ew_ret (res1 Z (.tmp Z)) ⟨_, Z, ((vbool _)), hC236.bx⟩
         ·
          subst hc11
          have hz45 := ((hz8.trans hl29).trans hl30)
          have hz46 := (((hz7.trans hl28).trans hl29).trans hl30)
          have hz47 := ((((hl25.trans hl26).trans hl28).trans hl29).trans hl30)
          refine cw_sub (E' := [(4, (.bool false)), (5, (.pointer (some ⟨g1, 0, none⟩))), (6, (.pointer (some ⟨g2, 0, none⟩))), (7, (.pointer (some p1))), (8, (.pointer (some p3)))]) ⟨Z, Z, Z, Z, Z, trivial⟩ (cw_drawQ 27 [PV RBox (Add g2 (Add g1 M)) x2, PV RPacket (Add g2 (Add g1 M)) x8, PEq (.bool x9), PV RBox (Add g2 (Add g1 M)) ({ Sides := x1.1.Sides } : Box), PV RPacket (Add g2 (Add g1 M)) x8, PEq (.bool false), PEq (.bool false), PEq undef, PEq undef, PEq undef, PEq (.bool false), PEq (.bool true), PEq (.bool true), PV RBox (Add g2 (Add g1 M)) x2, PV RBox (Add g2 (Add g1 M)) ({ Sides := x1.1.Sides } : Box), PEq (.bool false), PEq (.bool false), PEq (.bool false), PEq undef, PEq undef, PEq undef, PEq (.bool false), PEq (.bool false), PEq undef, PEq undef, PEq undef, PEq undef] (by kernel_rfl) Z (by kernel_rfl) ⟨PV.mono _ _ _, PV.mono _ _ _, PEq.mono _, PV.mono _ _ _, PV.mono _ _ _, PEq.mono _, PEq.mono _, PEq.mono _, PEq.mono _, PEq.mono _, PEq.mono _, PEq.mono _, PEq.mono _, PV.mono _ _ _, PV.mono _ _ _, PEq.mono _, PEq.mono _, PEq.mono _, PEq.mono _, PEq.mono _, PEq.mono _, PEq.mono _, PEq.mono _, PEq.mono _, PEq.mono _, PEq.mono _, PEq.mono _, trivial⟩ ⟨?_, ?_, ?_, ?_, ?_, ?_, ?_, ?_, ?_, ?_, ?_, ?_, ?_, ?_, ?_, ?_, ?_, ?_, ?_, ?_, ?_, ?_, ?_, ?_, ?_, ?_, ?_, trivial⟩ ?_)
          ·
           intro w237 D hS181 hd181
           have hl237 := Le.no (Add g2 (Add g1 M)) hS181
           exact dg_sub (E' := [(7, (.pointer (some p1)))]) ⟨Z, trivial⟩ (dg_plain Z (ow_load (R := RBox) Z Z (ARep.mono (hz47.trans hl237) hp1) (Tryd.sizeOf27 _) (Tryd.isAgg27 _) fun v162 hv162 => ⟨BX.refl _ _, hv162⟩))
          ·
           intro w238 D hS182 hd182
           have hl238 := Le.no (Add g2 (Add g1 M)) hS182
           exact dg_sub (E' := [(8, (.pointer (some p3)))]) ⟨Z, trivial⟩ (dg_plain Z (ow_load (R := RPacket) Z Z (ARep.mono hl238 hp3) (Tryd.sizeOf45 _) (Tryd.isAgg45 _) fun v163 hv163 => ⟨BX.refl _ _, hv163⟩))
          ·
           intro w239 D hS183 hd183
           have hl239 := Le.no (Add g2 (Add g1 M)) hS183
           have hC239 := hC30.no hS183
           have d465 : PV RBox (Add g2 (Add g1 M)) x2 (D 0) w239 := dpA hd183 0 Z
           have d466 : PV RPacket (Add g2 (Add g1 M)) x8 (D 1) w239 := dpA hd183 1 Z
           generalize hq95 : (D 0) = v164 at d465
           generalize hq96 : (D 1) = v165 at d466
           refine dg_sub (E' := [(50, v164), (51, v165)]) ⟨(congrArg some hq95), (congrArg some hq96), trivial⟩ (dg_plain Z (ow_call Z Z Tryd.call31 (w_impl_BoxHas (hG.mono (hz45.trans hl239)) hC239.old d465 d466 hx9) fun v166 w240 hv166 => ?_))
           obtain ⟨hv166, hb57⟩ := hv166
           obtain rfl := vbool_eq hv166
           exact ⟨hb57, Z⟩
          ·
           intro w241 D hS184 hd184
           have hl241 := Le.no (Add g2 (Add g1 M)) hS184
           have ho478 := ho56.no hS184
           refine dg_sub (E' := [(5, (.pointer (some ⟨g1, 0, none⟩)))]) ⟨Z, trivial⟩ (dg_plain Z (ow_loadOwnA Z Z Z ho478 (Tryd.isAgg27 _) (Tryd.sizeOf27 _) Z ?_))
           have hw53 : VRep RBox w241 (Add g2 (Add g1 M)) ({ Sides := x1.1.Sides } : Box) (.agg #[(.slice A1 x1.1.Sides.length c1)]) := shut_Box (VRep.mono (hz46.trans hl241) hw1)
           exact ⟨BX.refl _ _, hw53⟩
          ·
           intro w242 D hS185 hd185
           have hl242 := Le.no (Add g2 (Add g1 M)) hS185
           exact dg_sub (E' := [(8, (.pointer (some p3)))]) ⟨Z, trivial⟩ (dg_plain Z (ow_load (R := RPacket) Z Z (ARep.mono hl242 hp3) (Tryd.sizeOf45 _) (Tryd.isAgg45 _) fun v167 hv167 => ⟨BX.refl _ _, hv167⟩))
          ·
           intro w243 D hS186 hd186
           have hl243 := Le.no (Add g2 (Add g1 M)) hS186
           have hC243 := hC30.no hS186
           have d467 : PV RBox (Add g2 (Add g1 M)) ({ Sides := x1.1.Sides } : Box) (D 3) w243 := dpA hd186 3 Z
           have d468 : PV RPacket (Add g2 (Add g1 M)) x8 (D 4) w243 := dpA hd186 4 Z
           generalize hq97 : (D 3) = v168 at d467
           generalize hq98 : (D 4) = v169 at d468
           refine dg_sub (E' := [(53, v168), (54, v169)]) ⟨(congrArg some hq97), (congrArg some hq98), trivial⟩ (dg_plain Z (ow_call Z Z Tryd.call31 (w_impl_BoxHas (hG.mono (hz45.trans hl243)) hC243.old d467 d468 hx10) fun v170 w244 hv170 => ?_))
           obtain ⟨hv170, hb58⟩ := hv170
           obtain rfl := vbool_eq hv170
           exact ⟨hb58, Z⟩
          ·
           intro w245 D hS187 hd187
           exact dg_sub (E' := [(55, (.bool false))]) ⟨(dpE hd187 5 Z Z), trivial⟩ (dg_plain Z (ow_move Z Z ⟨BX.refl _ _, Z⟩))
          ·
           intro w246 D hS188 hd188
           exact dg_sub (E' := [(56, (.bool false)), (6, (.pointer (some ⟨g2, 0, none⟩)))]) ⟨(dpE hd188 6 Z Z), Z, trivial⟩ (dg_off Z Z Z Z ⟨BX.refl _ _, Z⟩)
          ·
           intro w247 D hS189 hd189
           exact dg_sub (E' := [(56, (.bool false)), (8, (.pointer (some p3)))]) ⟨(dpE hd189 6 Z Z), Z, trivial⟩ (dg_off Z Z Z Z ⟨BX.refl _ _, Z⟩)
          ·
           intro w248 D hS190 hd190
           exact dg_sub (E' := [(57, undef), (58, undef), (56, (.bool false))]) ⟨(dpE hd190 7 Z Z), (dpE hd190 8 Z Z), (dpE hd190 6 Z Z), trivial⟩ (dg_off Z Z Z Z ⟨BX.refl _ _, Z⟩)
          ·
           intro w249 D hS191 hd191
           exact dg_sub (E' := [(56, (.bool false)), (59, undef)]) ⟨(dpE hd191 6 Z Z), (dpE hd191 9 Z Z), trivial⟩ (dg_plain Z (ow_pickF Z Z Z ⟨BX.refl _ _, Z⟩))
          ·
           intro w250 D hS192 hd192
           have d480 : PEq (.bool x9) (D 2) w250 := dpA hd192 2 Z
           obtain ⟨bb26, hq99, hq100⟩ : ∃ b, b = x9 ∧ (D 2) = .bool b := ⟨_, rfl, d480⟩
           refine dg_sub (E' := [(52, (.bool bb26)), (60, (.bool false))]) ⟨(congrArg some hq100), (dpE hd192 10 Z Z), trivial⟩ (dg_plain Z (ow_eqlB Z Z Z Tryd.underlying4 fun bb27 hbb27 => ?_))
           have hbb27' : bb27 = (x9 == false) := hbb27.trans (by rw [hq99])
           obtain rfl := hbb27'.trans hc10
           exact ⟨BX.refl _ _, Z⟩
          ·
           intro w251 D hS193 hd193
           exact dg_sub (E' := [(61, (.bool true))]) ⟨(dpE hd193 11 Z Z), trivial⟩ (dg_plain Z (ow_move Z Z ⟨BX.refl _ _, Z⟩))
          ·
           intro w252 D hS194 hd194
           have hl252 := Le.no (Add g2 (Add g1 M)) hS194
           exact dg_sub (E' := [(62, (.bool true)), (7, (.pointer (some p1)))]) ⟨(dpE hd194 12 Z Z), Z, trivial⟩ (dg_on Z Z Z Z (ow_load (R := RBox) Z Z (ARep.mono (hz47.trans hl252) hp1) (Tryd.sizeOf27 _) (Tryd.isAgg27 _) fun v171 hv171 => ⟨BX.refl _ _, hv171⟩))
          ·
           intro w253 D hS195 hd195
           have hl253 := Le.no (Add g2 (Add g1 M)) hS195
           have ho502 := ho56.no hS195
           refine dg_sub (E' := [(62, (.bool true)), (5, (.pointer (some ⟨g1, 0, none⟩)))]) ⟨(dpE hd195 12 Z Z), Z, trivial⟩ (dg_on Z Z Z Z (ow_loadOwnA Z Z Z ho502 (Tryd.isAgg27 _) (Tryd.sizeOf27 _) Z ?_))
           have hw54 : VRep RBox w253 (Add g2 (Add g1 M)) ({ Sides := x1.1.Sides } : Box) (.agg #[(.slice A1 x1.1.Sides.length c1)]) := shut_Box (VRep.mono (hz46.trans hl253) hw1)
           exact ⟨BX.refl _ _, hw54⟩
          ·
           intro w254 D hS196 hd196
           have hl254 := Le.no (Add g2 (Add g1 M)) hS196
           have hC254 := hC30.no hS196
           have d486 : PV RBox (Add g2 (Add g1 M)) x2 (D 13) w254 := dpA hd196 13 Z
           have d487 : PV RBox (Add g2 (Add g1 M)) ({ Sides := x1.1.Sides } : Box) (D 14) w254 := dpA hd196 14 Z
           generalize hq101 : (D 13) = v172 at d486
           generalize hq102 : (D 14) = v173 at d487
           refine dg_sub (E' := [(63, v172), (64, v173), (62, (.bool true))]) ⟨(congrArg some hq101), (congrArg some hq102), (dpE hd196 12 Z Z), trivial⟩ (dg_on Z Z Z Z (ow_call Z Z Tryd.call27 (w_impl_BoxWithin (hG.mono (hz45.trans hl254)) hC254.old d486 d487 hx16) fun v174 w255 hv174 => ?_))
           obtain ⟨hv174, hb59⟩ := hv174
           obtain rfl := vbool_eq hv174
           exact ⟨hb59, Z⟩
          ·
           intro w256 D hS197 hd197
           exact dg_sub (E' := [(62, (.bool true)), (65, (.bool false))]) ⟨(dpE hd197 12 Z Z), (dpE hd197 15 Z Z), trivial⟩ (dg_plain Z (ow_pickT Z Z Z ⟨BX.refl _ _, Z⟩))
          ·
           intro w257 D hS198 hd198
           exact dg_sub (E' := [(66, (.bool false))]) ⟨(dpE hd198 16 Z Z), trivial⟩ (dg_plain Z (ow_move Z Z ⟨BX.refl _ _, Z⟩))
          ·
           intro w258 D hS199 hd199
           exact dg_sub (E' := [(67, (.bool false)), (7, (.pointer (some p1)))]) ⟨(dpE hd199 17 Z Z), Z, trivial⟩ (dg_off Z Z Z Z ⟨BX.refl _ _, Z⟩)
          ·
           intro w259 D hS200 hd200
           exact dg_sub (E' := [(67, (.bool false)), (6, (.pointer (some ⟨g2, 0, none⟩)))]) ⟨(dpE hd200 17 Z Z), Z, trivial⟩ (dg_off Z Z Z Z ⟨BX.refl _ _, Z⟩)
          ·
           intro w260 D hS201 hd201
           exact dg_sub (E' := [(68, undef), (69, undef), (67, (.bool false))]) ⟨(dpE hd201 18 Z Z), (dpE hd201 19 Z Z), (dpE hd201 17 Z Z), trivial⟩ (dg_off Z Z Z Z ⟨BX.refl _ _, Z⟩)
          ·
           intro w261 D hS202 hd202
           exact dg_sub (E' := [(67, (.bool false)), (70, undef)]) ⟨(dpE hd202 17 Z Z), (dpE hd202 20 Z Z), trivial⟩ (dg_plain Z (ow_pickF Z Z Z ⟨BX.refl _ _, Z⟩))
          ·
           intro w262 D hS203 hd203
           exact dg_sub (E' := [(71, (.bool false))]) ⟨(dpE hd203 21 Z Z), trivial⟩ (dg_plain Z (ow_move Z Z ⟨BX.refl _ _, Z⟩))
          ·
           intro w263 D hS204 hd204
           exact dg_sub (E' := [(72, (.bool false)), (5, (.pointer (some ⟨g1, 0, none⟩)))]) ⟨(dpE hd204 22 Z Z), Z, trivial⟩ (dg_off Z Z Z Z ⟨BX.refl _ _, Z⟩)
          ·
           intro w264 D hS205 hd205
           exact dg_sub (E' := [(72, (.bool false)), (5, (.pointer (some ⟨g1, 0, none⟩)))]) ⟨(dpE hd205 22 Z Z), Z, trivial⟩ (dg_off Z Z Z Z ⟨BX.refl _ _, Z⟩)
          ·
           intro w265 D hS206 hd206
           exact dg_sub (E' := [(73, undef), (74, undef), (72, (.bool false))]) ⟨(dpE hd206 23 Z Z), (dpE hd206 24 Z Z), (dpE hd206 22 Z Z), trivial⟩ (dg_off Z Z Z Z ⟨BX.refl _ _, Z⟩)
          ·
           intro w266 D hS207 hd207
           exact dg_sub (E' := [(72, (.bool false)), (5, (.pointer (some ⟨g1, 0, none⟩)))]) ⟨(dpE hd207 22 Z Z), Z, trivial⟩ (dg_off Z Z Z Z ⟨BX.refl _ _, Z⟩)
          ·
           intro w267 D hS208 hd208
           have hC267 := hC30.no hS208
           refine lw_sub (E' := [(72, (.bool false)), (75, undef), (76, undef), (4, (.bool false)), (5, (.pointer (some ⟨g1, 0, none⟩))), (6, (.pointer (some ⟨g2, 0, none⟩))), (7, (.pointer (some p1))), (8, (.pointer (some p3)))]) ⟨(dpE hd208 22 Z Z), (dpE hd208 25 Z Z), (dpE hd208 26 Z Z), Z, Z, Z, Z, Z, trivial⟩ (lw_off Z Z Z Z Z Z (lw_op Z Z Z (ow_pickF Z Z Z (lw_op Z Z Z (ow_assign Z Z (lw_nil (ew_then (cw_ret ?_))))))))
           obtain rfl := Option.some.inj h
           exact ew_ret (res1 Z (.tmp Z)) ⟨_, Z, ((vbool _)), hC267.bx⟩
        ·
         have hz51 := ((hz8.trans hl29).trans hl30)
         have hz52 := (((hz7.trans hl28).trans hl29).trans hl30)
         have hz53 := ((((hl25.trans hl26).trans hl28).trans hl29).trans hl30)
         refine cw_sub (E' := [(4, (.bool false)), (5, (.pointer (some ⟨g1, 0, none⟩))), (6, (.pointer (some ⟨g2, 0, none⟩))), (7, (.pointer (some p1))), (8, (.pointer (some p3)))]) ⟨Z, Z, Z, Z, Z, trivial⟩ (cw_drawQ 27 [PV RBox (Add g2 (Add g1 M)) x2, PV RPacket (Add g2 (Add g1 M)) x8, PEq (.bool x9), PV RBox (Add g2 (Add g1 M)) ({ Sides := x1.1.Sides } : Box), PV RPacket (Add g2 (Add g1 M)) x8, PEq (.bool false), PEq (.bool false), PEq undef, PEq undef, PEq undef, PEq (.bool false), PEq (.bool false), PEq (.bool false), PEq undef, PEq undef, PEq undef, PEq (.bool false), PEq (.bool false), PEq undef, PEq undef, PEq undef, PEq (.bool false), PEq (.bool false), PEq undef, PEq undef, PEq undef, PEq undef] (by kernel_rfl) Z (by kernel_rfl) ⟨PV.mono _ _ _, PV.mono _ _ _, PEq.mono _, PV.mono _ _ _, PV.mono _ _ _, PEq.mono _, PEq.mono _, PEq.mono _, PEq.mono _, PEq.mono _, PEq.mono _, PEq.mono _, PEq.mono _, PEq.mono _, PEq.mono _, PEq.mono _, PEq.mono _, PEq.mono _, PEq.mono _, PEq.mono _, PEq.mono _, PEq.mono _, PEq.mono _, PEq.mono _, PEq.mono _, PEq.mono _, PEq.mono _, trivial⟩ ⟨?_, ?_, ?_, ?_, ?_, ?_, ?_, ?_, ?_, ?_, ?_, ?_, ?_, ?_, ?_, ?_, ?_, ?_, ?_, ?_, ?_, ?_, ?_, ?_, ?_, ?_, ?_, trivial⟩ ?_)
         ·
          intro w268 D hS209 hd209
          have hl268 := Le.no (Add g2 (Add g1 M)) hS209
          exact dg_sub (E' := [(7, (.pointer (some p1)))]) ⟨Z, trivial⟩ (dg_plain Z (ow_load (R := RBox) Z Z (ARep.mono (hz53.trans hl268) hp1) (Tryd.sizeOf27 _) (Tryd.isAgg27 _) fun v175 hv175 => ⟨BX.refl _ _, hv175⟩))
         ·
          intro w269 D hS210 hd210
          have hl269 := Le.no (Add g2 (Add g1 M)) hS210
          exact dg_sub (E' := [(8, (.pointer (some p3)))]) ⟨Z, trivial⟩ (dg_plain Z (ow_load (R := RPacket) Z Z (ARep.mono hl269 hp3) (Tryd.sizeOf45 _) (Tryd.isAgg45 _) fun v176 hv176 => ⟨BX.refl _ _, hv176⟩))
         ·
          intro w270 D hS211 hd211
          have hl270 := Le.no (Add g2 (Add g1 M)) hS211
          have hC270 := hC30.no hS211
          have d538 : PV RBox (Add g2 (Add g1 M)) x2 (D 0) w270 := dpA hd211 0 Z
          have d539 : PV RPacket (Add g2 (Add g1 M)) x8 (D 1) w270 := dpA hd211 1 Z
          generalize hq103 : (D 0) = v177 at d538
          generalize hq104 : (D 1) = v178 at d539
          refine dg_sub (E' := [(50, v177), (51, v178)]) ⟨(congrArg some hq103), (congrArg some hq104), trivial⟩ (dg_plain Z (ow_call Z Z Tryd.call31 (w_impl_BoxHas (hG.mono (hz51.trans hl270)) hC270.old d538 d539 hx9) fun v179 w271 hv179 => ?_))
          obtain ⟨hv179, hb60⟩ := hv179
          obtain rfl := vbool_eq hv179
          exact ⟨hb60, Z⟩
         ·
          intro w272 D hS212 hd212
          have hl272 := Le.no (Add g2 (Add g1 M)) hS212
          have ho540 := ho56.no hS212
          refine dg_sub (E' := [(5, (.pointer (some ⟨g1, 0, none⟩)))]) ⟨Z, trivial⟩ (dg_plain Z (ow_loadOwnA Z Z Z ho540 (Tryd.isAgg27 _) (Tryd.sizeOf27 _) Z ?_))
          have hw55 : VRep RBox w272 (Add g2 (Add g1 M)) ({ Sides := x1.1.Sides } : Box) (.agg #[(.slice A1 x1.1.Sides.length c1)]) := shut_Box (VRep.mono (hz52.trans hl272) hw1)
          exact ⟨BX.refl _ _, hw55⟩
         ·
          intro w273 D hS213 hd213
          have hl273 := Le.no (Add g2 (Add g1 M)) hS213
          exact dg_sub (E' := [(8, (.pointer (some p3)))]) ⟨Z, trivial⟩ (dg_plain Z (ow_load (R := RPacket) Z Z (ARep.mono hl273 hp3) (Tryd.sizeOf45 _) (Tryd.isAgg45 _) fun v180 hv180 => ⟨BX.refl _ _, hv180⟩))
         ·
          intro w274 D hS214 hd214
          have hl274 := Le.no (Add g2 (Add g1 M)) hS214
          have hC274 := hC30.no hS214
          have d540 : PV RBox (Add g2 (Add g1 M)) ({ Sides := x1.1.Sides } : Box) (D 3) w274 := dpA hd214 3 Z
          have d541 : PV RPacket (Add g2 (Add g1 M)) x8 (D 4) w274 := dpA hd214 4 Z
          generalize hq105 : (D 3) = v181 at d540
          generalize hq106 : (D 4) = v182 at d541
          refine dg_sub (E' := [(53, v181), (54, v182)]) ⟨(congrArg some hq105), (congrArg some hq106), trivial⟩ (dg_plain Z (ow_call Z Z Tryd.call31 (w_impl_BoxHas (hG.mono (hz51.trans hl274)) hC274.old d540 d541 hx10) fun v183 w275 hv183 => ?_))
          obtain ⟨hv183, hb61⟩ := hv183
          obtain rfl := vbool_eq hv183
          exact ⟨hb61, Z⟩
         ·
          intro w276 D hS215 hd215
          exact dg_sub (E' := [(55, (.bool false))]) ⟨(dpE hd215 5 Z Z), trivial⟩ (dg_plain Z (ow_move Z Z ⟨BX.refl _ _, Z⟩))
         ·
          intro w277 D hS216 hd216
          exact dg_sub (E' := [(56, (.bool false)), (6, (.pointer (some ⟨g2, 0, none⟩)))]) ⟨(dpE hd216 6 Z Z), Z, trivial⟩ (dg_off Z Z Z Z ⟨BX.refl _ _, Z⟩)
         ·
          intro w278 D hS217 hd217
          exact dg_sub (E' := [(56, (.bool false)), (8, (.pointer (some p3)))]) ⟨(dpE hd217 6 Z Z), Z, trivial⟩ (dg_off Z Z Z Z ⟨BX.refl _ _, Z⟩)
         ·
          intro w279 D hS218 hd218
          exact dg_sub (E' := [(57, undef), (58, undef), (56, (.bool false))]) ⟨(dpE hd218 7 Z Z), (dpE hd218 8 Z Z), (dpE hd218 6 Z Z), trivial⟩ (dg_off Z Z Z Z ⟨BX.refl _ _, Z⟩)
         ·
          intro w280 D hS219 hd219
          exact dg_sub (E' := [(56, (.bool false)), (59, undef)]) ⟨(dpE hd219 6 Z Z), (dpE hd219 9 Z Z), trivial⟩ (dg_plain Z (ow_pickF Z Z Z ⟨BX.refl _ _, Z⟩))
         ·
          intro w281 D hS220 hd220
          have d553 : PEq (.bool x9) (D 2) w281 := dpA hd220 2 Z
          obtain ⟨bb28, hq107, hq108⟩ : ∃ b, b = x9 ∧ (D 2) = .bool b := ⟨_, rfl, d553⟩
          refine dg_sub (E' := [(52, (.bool bb28)), (60, (.bool false))]) ⟨(congrArg some hq108), (dpE hd220 10 Z Z), trivial⟩ (dg_plain Z (ow_eqlB Z Z Z Tryd.underlying4 fun bb29 hbb29 => ?_))
          have hbb29' : bb29 = (x9 == false) := hbb29.trans (by rw [hq107])
          obtain rfl := hbb29'.trans hc10
          exact ⟨BX.refl _ _, Z⟩
         ·
          intro w282 D hS221 hd221
          exact dg_sub (E' := [(61, (.bool false))]) ⟨(dpE hd221 11 Z Z), trivial⟩ (dg_plain Z (ow_move Z Z ⟨BX.refl _ _, Z⟩))
         ·
          intro w283 D hS222 hd222
          exact dg_sub (E' := [(62, (.bool false)), (7, (.pointer (some p1)))]) ⟨(dpE hd222 12 Z Z), Z, trivial⟩ (dg_off Z Z Z Z ⟨BX.refl _ _, Z⟩)
         ·
          intro w284 D hS223 hd223
          exact dg_sub (E' := [(62, (.bool false)), (5, (.pointer (some ⟨g1, 0, none⟩)))]) ⟨(dpE hd223 12 Z Z), Z, trivial⟩ (dg_off Z Z Z Z ⟨BX.refl _ _, Z⟩)
         ·
          intro w285 D hS224 hd224
          exact dg_sub (E' := [(63, undef), (64, undef), (62, (.bool false))]) ⟨(dpE hd224 13 Z Z), (dpE hd224 14 Z Z), (dpE hd224 12 Z Z), trivial⟩ (dg_off Z Z Z Z ⟨BX.refl _ _, Z⟩)
         ·
          intro w286 D hS225 hd225
          exact dg_sub (E' := [(62, (.bool false)), (65, undef)]) ⟨(dpE hd225 12 Z Z), (dpE hd225 15 Z Z), trivial⟩ (dg_plain Z (ow_pickF Z Z Z ⟨BX.refl _ _, Z⟩))
         ·
          intro w287 D hS226 hd226
          exact dg_sub (E' := [(66, (.bool false))]) ⟨(dpE hd226 16 Z Z), trivial⟩ (dg_plain Z (ow_move Z Z ⟨BX.refl _ _, Z⟩))
         ·
          intro w288 D hS227 hd227
          exact dg_sub (E' := [(67, (.bool false)), (7, (.pointer (some p1)))]) ⟨(dpE hd227 17 Z Z), Z, trivial⟩ (dg_off Z Z Z Z ⟨BX.refl _ _, Z⟩)
         ·
          intro w289 D hS228 hd228
          exact dg_sub (E' := [(67, (.bool false)), (6, (.pointer (some ⟨g2, 0, none⟩)))]) ⟨(dpE hd228 17 Z Z), Z, trivial⟩ (dg_off Z Z Z Z ⟨BX.refl _ _, Z⟩)
         ·
          intro w290 D hS229 hd229
          exact dg_sub (E' := [(68, undef), (69, undef), (67, (.bool false))]) ⟨(dpE hd229 18 Z Z), (dpE hd229 19 Z Z), (dpE hd229 17 Z Z), trivial⟩ (dg_off Z Z Z Z ⟨BX.refl _ _, Z⟩)
         ·
          intro w291 D hS230 hd230
          exact dg_sub (E' := [(67, (.bool false)), (70, undef)]) ⟨(dpE hd230 17 Z Z), (dpE hd230 20 Z Z), trivial⟩ (dg_plain Z (ow_pickF Z Z Z ⟨BX.refl _ _, Z⟩))
         ·
          intro w292 D hS231 hd231
          exact dg_sub (E' := [(71, (.bool false))]) ⟨(dpE hd231 21 Z Z), trivial⟩ (dg_plain Z (ow_move Z Z ⟨BX.refl _ _, Z⟩))
         ·
          intro w293 D hS232 hd232
          exact dg_sub (E' := [(72, (.bool false)), (5, (.pointer (some ⟨g1, 0, none⟩)))]) ⟨(dpE hd232 22 Z Z), Z, trivial⟩ (dg_off Z Z Z Z ⟨BX.refl _ _, Z⟩)
         ·
          intro w294 D hS233 hd233
          exact dg_sub (E' := [(72, (.bool false)), (5, (.pointer (some ⟨g1, 0, none⟩)))]) ⟨(dpE hd233 22 Z Z), Z, trivial⟩ (dg_off Z Z Z Z ⟨BX.refl _ _, Z⟩)
         ·
          intro w295 D hS234 hd234
          exact dg_sub (E' := [(73, undef), (74, undef), (72, (.bool false))]) ⟨(dpE hd234 23 Z Z), (dpE hd234 24 Z Z), (dpE hd234 22 Z Z), trivial⟩ (dg_off Z Z Z Z ⟨BX.refl _ _, Z⟩)
         ·
          intro w296 D hS235 hd235
          exact dg_sub (E' := [(72, (.bool false)), (5, (.pointer (some ⟨g1, 0, none⟩)))]) ⟨(dpE hd235 22 Z Z), Z, trivial⟩ (dg_off Z Z Z Z ⟨BX.refl _ _, Z⟩)
         ·
          intro w297 D hS236 hd236
          have hC297 := hC30.no hS236
          refine lw_sub (E' := [(72, (.bool false)), (75, undef), (76, undef), (4, (.bool false)), (5, (.pointer (some ⟨g1, 0, none⟩))), (6, (.pointer (some ⟨g2, 0, none⟩))), (7, (.pointer (some p1))), (8, (.pointer (some p3)))]) ⟨(dpE hd236 22 Z Z), (dpE hd236 25 Z Z), (dpE hd236 26 Z Z), Z, Z, Z, Z, Z, trivial⟩ (lw_off Z Z Z Z Z Z (lw_op Z Z Z (ow_pickF Z Z Z (lw_op Z Z Z (ow_assign Z Z (lw_nil (ew_then (cw_ret ?_))))))))
          obtain rfl := Option.some.inj h
          exact ew_ret (res1 Z (.tmp Z)) ⟨_, Z, ((vbool _)), hC297.bx⟩
     ·
      subst hc4
      refine cw_true Z (cw_seq (cw_region (lw_op Z Z Z (ow_assign Z Z (lw_nil (ew_then (cw_ret (ew_thenR ?_))))))))
      obtain rfl := Option.some.inj h
      exact ew_ret (res1 Z (.tmp Z)) ⟨_, Z, ((vbool _)), hC26.bx⟩
   ·
    subst hc3
    have hz57 := ((hz2.trans hl6).trans hl7)
    have hz58 := ((hz1.trans hl6).trans hl7)
    refine cw_sub (E' := [(1, v1p), (4, (.bool false)), (5, (.pointer (some ⟨g1, 0, none⟩))), (6, (.pointer (some ⟨g2, 0, none⟩))), (7, (.pointer (some p1)))]) ⟨Z, Z, Z, Z, Z, trivial⟩ (cw_drawQ 11 [PV RBox (Add g2 (Add g1 M)) x2, PV RBox (Add g2 (Add g1 M)) ({ Sides := x1.1.Sides } : Box), PV RBox (Add g2 (Add g1 M)) ({ Sides := x1.2.Sides } : Box), PV RBox (Add g2 (Add g1 M)) x3, PEq (.bool false), PEq (.bool true), PEq (.bool true), PEq undef, PEq undef, PEq undef, PEq undef] (by kernel_rfl) Z (by kernel_rfl) ⟨PV.mono _ _ _, PV.mono _ _ _, PV.mono _ _ _, PV.mono _ _ _, PEq.mono _, PEq.mono _, PEq.mono _, PEq.mono _, PEq.mono _, PEq.mono _, PEq.mono _, trivial⟩ ⟨?_, ?_, ?_, ?_, ?_, ?_, ?_, ?_, ?_, ?_, ?_, trivial⟩ ?_)
    ·
     intro w298 D hS237 hd237
     have hl298 := Le.no (Add g2 (Add g1 M)) hS237
     exact dg_sub (E' := [(7, (.pointer (some p1)))]) ⟨Z, trivial⟩ (dg_plain Z (ow_load (R := RBox) Z Z (ARep.mono hl298 hp1) (Tryd.sizeOf27 _) (Tryd.isAgg27 _) fun v184 hv184 => ⟨BX.refl _ _, hv184⟩))
    ·
     intro w299 D hS238 hd238
     have hl299 := Le.no (Add g2 (Add g1 M)) hS238
     have ho594 := ho10.no hS238
     refine dg_sub (E' := [(5, (.pointer (some ⟨g1, 0, none⟩)))]) ⟨Z, trivial⟩ (dg_plain Z (ow_loadOwnA Z Z Z ho594 (Tryd.isAgg27 _) (Tryd.sizeOf27 _) Z ?_))
     have hw56 : VRep RBox w299 (Add g2 (Add g1 M)) ({ Sides := x1.1.Sides } : Box) (.agg #[(.slice A1 x1.1.Sides.length c1)]) := shut_Box (VRep.mono (hz58.trans hl299) hw1)
     exact ⟨BX.refl _ _, hw56⟩
    ·
     intro w300 D hS239 hd239
     have hl300 := Le.no (Add g2 (Add g1 M)) hS239
     have ho597 := ho11.no hS239
     refine dg_sub (E' := [(6, (.pointer (some ⟨g2, 0, none⟩)))]) ⟨Z, trivial⟩ (dg_plain Z (ow_loadOwnA Z Z Z ho597 (Tryd.isAgg27 _) (Tryd.sizeOf27 _) Z ?_))
     have hw57 : VRep RBox w300 (Add g2 (Add g1 M)) ({ Sides := x1.2.Sides } : Box) (.agg #[(.slice A2 x1.2.Sides.length c2)]) := shut_Box (VRep.mono (hz58.trans hl300) hw2)
     exact ⟨BX.refl _ _, hw57⟩
    ·
     intro w301 D hS240 hd240
     have hl301 := Le.no (Add g2 (Add g1 M)) hS240
     have hC301 := hC7.no hS240
     have d611 : PV RBox (Add g2 (Add g1 M)) ({ Sides := x1.1.Sides } : Box) (D 1) w301 := dpA hd240 1 Z
     have d612 : PV RBox (Add g2 (Add g1 M)) ({ Sides := x1.2.Sides } : Box) (D 2) w301 := dpA hd240 2 Z
     generalize hq109 : (D 1) = v185 at d611
     generalize hq110 : (D 2) = v186 at d612
     refine dg_sub (E' := [(26, v185), (27, v186)]) ⟨(congrArg some hq109), (congrArg some hq110), trivial⟩ (dg_plain Z (ow_call Z Z Tryd.call44 (w_spec_BoxMeet (hG.mono (hz57.trans hl301)) hC301.old d611 d612 hx3) fun v187 w302 hv187 => ?_))
     obtain ⟨hv187, hb62⟩ := hv187
     exact ⟨hb62, hv187⟩
    ·
     intro w303 D hS241 hd241
     have hl303 := Le.no (Add g2 (Add g1 M)) hS241
     have hC303 := hC7.no hS241
     have d613 : PV RBox (Add g2 (Add g1 M)) x2 (D 0) w303 := dpA hd241 0 Z
     have d614 : PV RBox (Add g2 (Add g1 M)) x3 (D 3) w303 := dpA hd241 3 Z
     generalize hq111 : (D 0) = v188 at d613
     generalize hq112 : (D 3) = v189 at d614
     refine dg_sub (E' := [(25, v188), (28, v189)]) ⟨(congrArg some hq111), (congrArg some hq112), trivial⟩ (dg_plain Z (ow_call Z Z Tryd.call17 (w_laws_sameBox (hG.mono (hz57.trans hl303)) hC303.old d613 d614 hx4) fun v190 w304 hv190 => ?_))
     obtain ⟨hv190, hb63⟩ := hv190
     obtain rfl := vbool_eq hv190
     exact ⟨hb63, Z⟩
    ·
     intro w305 D hS242 hd242
     exact dg_sub (E' := [(29, (.bool false))]) ⟨(dpE hd242 4 Z Z), trivial⟩ (dg_plain Z (ow_not Z Z ⟨BX.refl _ _, Z⟩))
    ·
     intro w306 D hS243 hd243
     exact dg_sub (E' := [(30, (.bool true))]) ⟨(dpE hd243 5 Z Z), trivial⟩ (dg_plain Z (ow_move Z Z ⟨BX.refl _ _, Z⟩))
    ·
     intro w307 D hS244 hd244
     exact dg_sub (E' := [(31, (.bool true)), (7, (.pointer (some p1)))]) ⟨(dpE hd244 6 Z Z), Z, trivial⟩ (dg_off Z Z Z Z ⟨BX.refl _ _, Z⟩)
    ·
     intro w308 D hS245 hd245
     exact dg_sub (E' := [(31, (.bool true)), (6, (.pointer (some ⟨g2, 0, none⟩)))]) ⟨(dpE hd245 6 Z Z), Z, trivial⟩ (dg_off Z Z Z Z ⟨BX.refl _ _, Z⟩)
    ·
     intro w309 D hS246 hd246
     exact dg_sub (E' := [(31, (.bool true)), (5, (.pointer (some ⟨g1, 0, none⟩)))]) ⟨(dpE hd246 6 Z Z), Z, trivial⟩ (dg_off Z Z Z Z ⟨BX.refl _ _, Z⟩)
    ·
     intro w310 D hS247 hd247
     exact dg_sub (E' := [(33, undef), (34, undef), (31, (.bool true))]) ⟨(dpE hd247 8 Z Z), (dpE hd247 9 Z Z), (dpE hd247 6 Z Z), trivial⟩ (dg_off Z Z Z Z ⟨BX.refl _ _, Z⟩)
    ·
     intro w311 D hS248 hd248
     have hC311 := hC7.no hS248
     refine lw_sub (E' := [(31, (.bool true)), (32, undef), (35, undef), (1, v1p), (4, (.bool false)), (5, (.pointer (some ⟨g1, 0, none⟩))), (6, (.pointer (some ⟨g2, 0, none⟩))), (7, (.pointer (some p1)))]) ⟨(dpE hd248 6 Z Z), (dpE hd248 7 Z Z), (dpE hd248 10 Z Z), Z, Z, Z, Z, Z, trivial⟩ (lw_off Z Z Z Z Z Z (lw_off Z Z Z Z Z Z (lw_op Z Z Z (ow_pickT Z Z Z (lw_nil (ew_then (cw_true Z (cw_seq (cw_region (lw_op Z Z Z (ow_assign Z Z (lw_nil (ew_then (cw_ret (ew_thenR ?_)))))))))))))))
     obtain rfl := Option.some.inj h
     exact ew_ret (res1 Z (.tmp Z)) ⟨_, Z, ((vbool _)), hC311.bx⟩


end Go.PF
