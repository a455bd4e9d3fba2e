/- The walks; no condition. -/
import Derived.Test.YtnleamfkpjnfoaaDoorProg
import Derived.Test.YtnleamfkpjnfoaaDoorWk2
import Derived.Test.YtnleamfkpjnfoaaDoorPFNew
set_option maxRecDepth 100000
set_option maxHeartbeats 4000000
namespace Go.PF
open Go Go.RowKit Go.Proofs

theorem w_spec_l11Cut {w : World} {M : Nat → Prop} (hG : ARep (RArr 4 RShape) w M shapes ⟨0, 0, none⟩) (hO : ∀ b, M b → b < w.heap.size) {v0p : Value} {a_a : Box} (h0 : VRep RBox w M a_a v0p) {v1p : Value} {a_b : Box} (h1 : VRep RBox w M a_b v1p) {r : (List Box)} (h : F.spec_l11Cut a_a a_b = some r) :
  Calls Tryd.prog 108 [v0p, v1p].toArray w fun e w' => ∃ v, e = .returned v ∧ VRep (RSlice RBox) w' M r v ∧ BX No w w' := by
 obtain ⟨i27, hi27, hz27, hs27, hy27⟩ := info27
 have hC : Cx No w M w M := Cx.start hO (fun _ e => e.elim)
 refine walk (N := 82) Tryd.func108 Z Tryd.ntmps108 Z (cw_seq (cw_region (lw_op Z Z Z (ow_box (R := RBox) Z Z h0 hC fun p1 w1 hp1 hb1 hl1 hC1 => lw_op Z Z Z (ow_box (R := RBox) Z Z (VRep.mono hl1 h1) hC1 fun p2 w2 hp2 hb2 hl2 hC2 => lw_op Z Z Z (ow_assign Z Z (lw_nil (ew_then (cw_seq (cw_region (lw_op Z Z Z (ow_buildSlice0 (R := RBox) (e := 27) Z (by kernel_rfl) hC2 fun p3 w3 M1 hr1 hb3 hl3 hC3 hM1 hat1 => lw_op Z Z Z (ow_assign Z Z (lw_nil (ew_then (cw_seq (cw_seq (cw_region (lw_op Z Z Z (ow_load (R := RBox) Z Z (ARep.mono (hl2.trans hl3) hp1) (Tryd.sizeOf27 _) (Tryd.isAgg27 _) fun v1 hv1 => lw_op Z Z Z (ow_load (R := RBox) Z Z (ARep.mono hl3 hp2) (Tryd.sizeOf27 _) (Tryd.isAgg27 _) fun v2 hv2 => ?_)))))))))))))))))))))
 replace h := bind_some h
 obtain ⟨x1, hx1, h⟩ := h
 have hz1 := ((hl1.trans hl2).trans hl3)
 refine lw_op Z Z Z (ow_call Z Z Tryd.call86 (w_spec_l10Meet (hG.mono hz1) hC3.old hv1 hv2 hx1) fun v3 w4 hv3 => ?_)
 obtain ⟨hv3, hb4⟩ := hv3
 have hl4 := Le.no M1 hb4
 have hC4 := hC3.no hb4
 have hr2 := hr1.no hb4
 replace h := bind_some h
 obtain ⟨x2, hx2, h⟩ := h
 refine lw_op Z Z Z (ow_call Z Z Tryd.call75 (w_spec_l10Empty (hG.mono (hz1.trans hl4)) hC4.old hv3 hx2) fun v4 w5 hv4 => ?_)
 obtain ⟨hv4, hb5⟩ := hv4
 have hl5 := Le.no M1 hb5
 have hC5 := hC4.no hb5
 have hr3 := hr2.no hb5
 obtain rfl := vbool_eq hv4
 refine lw_nil (ew_then ?_)
 replace h := cond_some h
 rcases h with ⟨hc1, h⟩ | ⟨hc1, h⟩
 ·
  subst hc1
  refine cw_true Z (cw_seq (cw_seq (cw_region ?_)))
  have hz2 := (((hl2.trans hl3).trans hl4).trans hl5)
  refine lw_op Z Z Z (ow_load (R := RBox) Z Z (ARep.mono hz2 hp1) (Tryd.sizeOf27 _) (Tryd.isAgg27 _) fun v5 hv5 => ?_)
  replace h := bind_some h
  obtain ⟨x3, hx3, h⟩ := h
  have hz3 := ((hz1.trans hl4).trans hl5)
  refine lw_op Z Z Z (ow_call Z Z Tryd.call75 (w_spec_l10Empty (hG.mono hz3) hC5.old hv5 hx3) fun v6 w6 hv6 => ?_)
  obtain ⟨hv6, hb6⟩ := hv6
  have hl6 := Le.no M1 hb6
  have hC6 := hC5.no hb6
  have hr4 := hr3.no hb6
  obtain rfl := vbool_eq hv6
  refine lw_op Z Z Z (ow_not Z Z (lw_nil (ew_then ?_)))
  replace h := cond_some h
  rcases h with ⟨hc2, h⟩ | ⟨hc2, h⟩
  ·
   subst hc2
   refine cw_false Z (cw_skip (ew_then (cw_seq (cw_region (lw_op Z Z Z (ow_move Z Z (lw_op Z Z Z (ow_assign Z Z (lw_nil (ew_then (cw_ret (ew_thenR ?_))))))))))))
   obtain rfl := Option.some.inj h
   exact ew_ret (res1 Z (.tmp Z)) ⟨_, Z, (hr4.freezeBack hC6 hO), hC6.bx⟩
  ·
   subst hc2
   refine cw_true Z (cw_region (lw_op Z Z Z (ow_move Z Z (lw_op Z Z Z (ow_load (R := RBox) Z Z (ARep.mono (hz2.trans hl6) hp1) (Tryd.sizeOf27 _) (Tryd.isAgg27 _) fun v7 hv7 => ?_)))))
   obtain ⟨A1, c1, rfl, hw1⟩ := open_Box hv7
   refine lw_op Z Z Z (ow_buildSlice (R := RBox) (xs := [a_a]) (cs := #[(.slice A1 a_a.Sides.length c1)]) (e := 27) Z Z (by kernel_rfl) Z Z ⟨_, _, Z, hv7.cells, Z⟩ hC6 fun p4 w7 hw2 hb7 hl7 hC7 => ?_)
   have hr5 := hr4.no hb7
   replace h := bind_some h
   obtain ⟨z1, hz1, h⟩ := h
   refine lw_op Z Z Z (ow_append (R := RBox) Z Z Z Z Tryd.underlying34 hi27 hz27 hs27 hy27 Z Z Z Z hr5 hw2 hz1 hC7 fun v8 w8 M2 hr6 hb8 hl8 hC8 hM2 hat2 => lw_op Z Z Z (ow_assign Z Z (lw_nil (ew_then (cw_seq (cw_region (lw_op Z Z Z (ow_move Z Z (lw_op Z Z Z (ow_assign Z Z (lw_nil (ew_then (cw_ret (ew_thenR ?_))))))))))))))
   obtain rfl := Option.some.inj h
   exact ew_ret (res1 Z (.tmp Z)) ⟨_, Z, (hr6.freezeBack hC8 hO), hC8.bx⟩
 ·
  subst hc1
  refine cw_false Z (cw_skip (ew_then (cw_seq (cw_region ?_))))
  have hz4 := (((hl2.trans hl3).trans hl4).trans hl5)
  refine lw_op Z Z Z (ow_load (R := RBox) Z Z (ARep.mono hz4 hp1) (Tryd.sizeOf27 _) (Tryd.isAgg27 _) fun v9 hv9 => lw_op Z Z Z (ow_alloc Z (Tryd.zeroValue27 _) hC5 fun g1 w9 hg1 hg2 ho1 hb9 hl9 hC9 => ?_))
  have hn1 := nb_fresh hr3 hg1
  have hr7 := hr3.add hb9 hg1
  have hm1 : (Add g1 M1) g1 := .inl Z
  obtain ⟨A2, c2, rfl, hw3⟩ := open_Box hv9
  refine lw_op0 Z Z (ow_store (X := No) (us := [(.slice A2 a_a.Sides.length c2)]) (cs' := #[(.slice A2 a_a.Sides.length c2)]) Z Z Z Z ho1 (Tryd.sizeOf27 _) Z Z Z Z hm1 (.inl hg2) Z hC9 fun w10 ho2 hb10 hl10 hC10 => ?_)
  have hr8 := hr7.go hb10 (fun k hk e => hn1 (hk.trans (congrArg some e))) hl10 (fun _ h => h)
  refine lw_nil (ew_then (cw_seq (cw_seq (cw_region (lw_op Z Z Z (ow_assign Z Z (lw_nil (ew_then ?_))))))))
  replace h := bind_some h
  obtain ⟨lr1, hlr1, h⟩ := h
  refine cw_for hlr1 (fun s a w' => ∃ (M' : Nat → Prop) (v0c : Value) (v2c : Value), Fits 82 [(3, (.pointer (some p2))), (5, v0c), (6, (.pointer (some ⟨g1, 0, none⟩))), (7, (.int .i64 s.2.1))] a ∧ Le w10 (Add g1 M1) w' M' ∧ Cx No w M w' M' ∧ OwnRow RBox w.heap.size 27 w' M' s.1 v0c ∧ VRep (RSlice (RSlice RSpan)) w' M' s.2.2 v2c ∧ Own w' g1 27 #[v2c] ∧ M' g1 ∧ (Value.ownBlock v0c) ≠ some g1) ?_ ?_ ?_
  ·
   intro a ha
   exact ⟨(Add g1 M1), (.slice (some p3) 0 0), (.slice A2 a_a.Sides.length c2), ha.sub ⟨Z, Z, Z, Z, trivial⟩, Le.refl _ _, hC10, hr8, (VRep.mono (hl9.trans hl10) hw3), ho2, hm1, hn1⟩
  ·
   rintro ⟨y1, k1, y2⟩ a w11 sr1 ⟨M3, v10, v12, hF1, hl11, hC11, hw4, hw5, ho3, hm2, hn2⟩ hb11 hR1
   refine cw_at (E := [(3, (.pointer (some p2))), (5, v10), (6, (.pointer (some ⟨g1, 0, none⟩))), (7, (.int .i64 k1))]) hF1 (cw_seq (cw_seq (cw_region (lw_op Z Z Z (ow_move Z Z (lw_op Z Z Z (ow_lss Z Z Z fun bb1 hbb1 => lw_nil (ew_then ?_))))))))
   replace hb11 := cond_some hb11
   rcases hb11 with ⟨hc3, hb11⟩ | ⟨hc3, hb11⟩
   ·
    obtain rfl := hbb1.trans hc3
    refine cw_true Z (cw_skip (ew_then (cw_seq (cw_block (cw_seq ?_)))))
    replace hb11 := bind_some hb11
    obtain ⟨x4, hx4, hb11⟩ := hb11
    replace hb11 := bind_some hb11
    obtain ⟨x5, hx5, hb11⟩ := hb11
    replace hb11 := bind_some hb11
    obtain ⟨x6, hx6, hb11⟩ := hb11
    replace hb11 := bind_some hb11
    obtain ⟨x7, hx7, hb11⟩ := hb11
    have hz5 := (((((hz1.trans hl4).trans hl5).trans hl9).trans hl10).trans hl11)
    have hz6 := (((((hl3.trans hl4).trans hl5).trans hl9).trans hl10).trans hl11)
    refine cw_sub (E' := [(3, (.pointer (some p2))), (5, v10), (6, (.pointer (some ⟨g1, 0, none⟩))), (7, (.int .i64 k1))]) ⟨Z, Z, Z, Z, trivial⟩ (cw_drawQ 13 [PEq (.pointer (some ⟨g1, 0, none⟩)), PV (RSlice (RSlice RSpan)) M3 y2, PEq (.int .i64 k1), PA (RSlice RSpan) M3 x4, PV (RSlice RSpan) M3 x4, PA (RSlice (RSlice RSpan)) M3 a_b.Sides, PV (RSlice (RSlice RSpan)) M3 a_b.Sides, PEq (.int .i64 k1), PA (RSlice RSpan) M3 x5, PV (RSlice RSpan) M3 x5, PEq (.int .i64 k1), PEq (.int .i64 x6), PV (RSlice RSpan) M3 x7] (by kernel_rfl) Z (by kernel_rfl) ⟨PEq.mono _, PV.mono _ _ _, PEq.mono _, PA.mono _ _ _, PV.mono _ _ _, PA.mono _ _ _, PV.mono _ _ _, PEq.mono _, PA.mono _ _ _, PV.mono _ _ _, PEq.mono _, PEq.mono _, PV.mono _ _ _, trivial⟩ ⟨?_, ?_, ?_, ?_, ?_, ?_, ?_, ?_, ?_, ?_, ?_, ?_, ?_, trivial⟩ ?_)
    ·
     intro w14 D hS1 hd1
     exact dg_sub (E' := [(6, (.pointer (some ⟨g1, 0, none⟩)))]) ⟨Z, trivial⟩ (dg_plain Z (ow_fieldAddr Z Z Tryd.underlying27 Z (Tryd.sizeOf25 _) ⟨BX.refl _ _, Z⟩))
    ·
     intro w15 D hS2 hd2
     have hl15 := Le.no M3 hS2
     have ho7 := ho3.no hS2
     exact dg_sub (E' := [(30, (.pointer (some ⟨g1, 0, none⟩)))]) ⟨(dpE hd2 0 Z Z), trivial⟩ (dg_plain Z (ow_loadOwn1 Z Z Z ho7 (Tryd.isAgg25 _) Z ⟨BX.refl _ _, (VRep.mono hl15 hw5)⟩))
    ·
     intro w16 D hS3 hd3
     exact dg_sub (E' := [(7, (.int .i64 k1))]) ⟨Z, trivial⟩ (dg_plain Z (ow_move Z Z ⟨BX.refl _ _, Z⟩))
    ·
     intro w17 D hS4 hd4
     have d2 : PV (RSlice (RSlice RSpan)) M3 y2 (D 1) w17 := dpA hd4 1 Z
     generalize hq1 : (D 1) = v18 at d2
     exact dg_sub (E' := [(31, v18), (32, (.int .i64 k1))]) ⟨(congrArg some hq1), (dpE hd4 2 Z Z), trivial⟩ (dg_plain Z (ow_indexSlice (R := (RSlice RSpan)) Z Z Z d2 Tryd.underlying25 (Tryd.sizeOf58 _) hx4 fun p7 hp7 => ⟨BX.refl _ _, ⟨_, Z, hp7⟩⟩))
    ·
     intro w18 D hS5 hd5
     have d4 : PA (RSlice RSpan) M3 x4 (D 3) w18 := dpA hd5 3 Z
     obtain ⟨p8, e1, ha1⟩ := d4
     exact dg_sub (E' := [(33, (.pointer (some p8)))]) ⟨(congrArg some e1), trivial⟩ (dg_plain Z (ow_load (R := (RSlice RSpan)) Z Z ha1 (Tryd.sizeOf58 _) (Tryd.isAgg58 _) fun v19 hv19 => ⟨BX.refl _ _, hv19⟩))
    ·
     intro w19 D hS6 hd6
     have hl19 := Le.no M3 hS6
     exact dg_sub (E' := [(3, (.pointer (some p2)))]) ⟨Z, trivial⟩ (dg_plain Z (ow_fieldAddr Z Z Tryd.underlying27 Z (Tryd.sizeOf25 _) ⟨BX.refl _ _, ⟨_, Z, (ARep.mono (hz6.trans hl19) (hp2.fld fld_Box_Sides))⟩⟩))
    ·
     intro w20 D hS7 hd7
     have d5 : PA (RSlice (RSlice RSpan)) M3 a_b.Sides (D 5) w20 := dpA hd7 5 Z
     obtain ⟨p9, e2, ha2⟩ := d5
     exact dg_sub (E' := [(35, (.pointer (some p9)))]) ⟨(congrArg some e2), trivial⟩ (dg_plain Z (ow_load (R := (RSlice (RSlice RSpan))) Z Z ha2 (Tryd.sizeOf25 _) (Tryd.isAgg25 _) fun v20 hv20 => ⟨BX.refl _ _, hv20⟩))
    ·
     intro w21 D hS8 hd8
     exact dg_sub (E' := [(7, (.int .i64 k1))]) ⟨Z, trivial⟩ (dg_plain Z (ow_move Z Z ⟨BX.refl _ _, Z⟩))
    ·
     intro w22 D hS9 hd9
     have d6 : PV (RSlice (RSlice RSpan)) M3 a_b.Sides (D 6) w22 := dpA hd9 6 Z
     generalize hq2 : (D 6) = v21 at d6
     exact dg_sub (E' := [(36, v21), (37, (.int .i64 k1))]) ⟨(congrArg some hq2), (dpE hd9 7 Z Z), trivial⟩ (dg_plain Z (ow_indexSlice (R := (RSlice RSpan)) Z Z Z d6 Tryd.underlying25 (Tryd.sizeOf58 _) hx5 fun p10 hp10 => ⟨BX.refl _ _, ⟨_, Z, hp10⟩⟩))
    ·
     intro w23 D hS10 hd10
     have d8 : PA (RSlice RSpan) M3 x5 (D 8) w23 := dpA hd10 8 Z
     obtain ⟨p11, e3, ha3⟩ := d8
     exact dg_sub (E' := [(38, (.pointer (some p11)))]) ⟨(congrArg some e3), trivial⟩ (dg_plain Z (ow_load (R := (RSlice RSpan)) Z Z ha3 (Tryd.sizeOf58 _) (Tryd.isAgg58 _) fun v22 hv22 => ⟨BX.refl _ _, hv22⟩))
    ·
     intro w24 D hS11 hd11
     exact dg_sub (E' := [(7, (.int .i64 k1))]) ⟨Z, trivial⟩ (dg_plain Z (ow_move Z Z ⟨BX.refl _ _, Z⟩))
    ·
     intro w25 D hS12 hd12
     have hl25 := Le.no M3 hS12
     have hC25 := hC11.no hS12
     refine dg_sub (E' := [(40, (.int .i64 k1))]) ⟨(dpE hd12 10 Z Z), trivial⟩ (dg_plain Z (ow_call Z Z Tryd.call81 (w_spec_FieldTop (hG.mono (hz5.trans hl25)) hC25.old hx6) fun v23 w26 hv23 => ?_))
     obtain ⟨hv23, hb14⟩ := hv23
     obtain rfl := vint_eq hv23
     exact ⟨hb14, Z⟩
    ·
     intro w27 D hS13 hd13
     have hl27 := Le.no M3 hS13
     have hC27 := hC11.no hS13
     have d10 : PV (RSlice RSpan) M3 x5 (D 9) w27 := dpA hd13 9 Z
     generalize hq3 : (D 9) = v24 at d10
     refine dg_sub (E' := [(39, v24), (41, (.int .i64 x6))]) ⟨(congrArg some hq3), (dpE hd13 11 Z Z), trivial⟩ (dg_plain Z (ow_call Z Z Tryd.call97 (w_spec_l2Other (hG.mono (hz5.trans hl27)) hC27.old d10 hx7) fun v25 w28 hv25 => ?_))
     obtain ⟨hv25, hb15⟩ := hv25
     exact ⟨hb15, hv25⟩
    ·
     intro w29 D hS14 hd14
     have d17 : PV (RSlice RSpan) M3 x4 (D 4) w29 := dpA hd14 4 Z
     have d25 : PV (RSlice RSpan) M3 x7 (D 12) w29 := dpA hd14 12 Z
     have hl29 := Le.no M3 hS14
     have hC29 := hC11.no hS14
     have ho21 := ho3.no hS14
     have hr26 := hw4.no hS14
     generalize hq4 : (D 4) = v26 at d17
     generalize hq5 : (D 12) = v27 at d25
     refine lw_sub (E' := [(34, v26), (42, v27), (3, (.pointer (some p2))), (5, v10), (6, (.pointer (some ⟨g1, 0, none⟩))), (7, (.int .i64 k1))]) ⟨(congrArg some hq4), (congrArg some hq5), Z, Z, Z, Z, trivial⟩ ?_
     replace hb11 := bind_some hb11
     obtain ⟨x8, hx8, hb11⟩ := hb11
     refine lw_op Z Z Z (ow_call Z Z Tryd.call60 (w_spec_l2Meet (hG.mono (hz5.trans hl29)) hC29.old d17 d25 hx8) fun v28 w30 hv28 => ?_)
     obtain ⟨hv28, hb16⟩ := hv28
     have hl30 := Le.no M3 hb16
     have hC30 := hC29.no hb16
     have ho22 := ho21.no hb16
     have hr27 := hr26.no hb16
     refine lw_op Z Z Z (ow_assign Z Z (lw_nil (ew_then (cw_seq ?_))))
     have hz7 := ((hz5.trans hl29).trans hl30)
     have hz8 := ((hz6.trans hl29).trans hl30)
     have hz9 := (hl29.trans hl30)
     refine cw_sub (E' := [(3, (.pointer (some p2))), (5, v10), (6, (.pointer (some ⟨g1, 0, none⟩))), (7, (.int .i64 k1)), (8, v28)]) ⟨Z, Z, Z, Z, Z, trivial⟩ (cw_drawQ 10 [PEq (.pointer (some ⟨g1, 0, none⟩)), PV (RSlice (RSlice RSpan)) M3 y2, PEq (.int .i64 k1), PA (RSlice RSpan) M3 x4, PV (RSlice RSpan) M3 x4, PA (RSlice (RSlice RSpan)) M3 a_b.Sides, PV (RSlice (RSlice RSpan)) M3 a_b.Sides, PEq (.int .i64 k1), PA (RSlice RSpan) M3 x5, PV (RSlice RSpan) M3 x5] (by kernel_rfl) Z (by kernel_rfl) ⟨PEq.mono _, PV.mono _ _ _, PEq.mono _, PA.mono _ _ _, PV.mono _ _ _, PA.mono _ _ _, PV.mono _ _ _, PEq.mono _, PA.mono _ _ _, PV.mono _ _ _, trivial⟩ ⟨?_, ?_, ?_, ?_, ?_, ?_, ?_, ?_, ?_, ?_, trivial⟩ ?_)
     ·
      intro w31 D hS15 hd15
      exact dg_sub (E' := [(6, (.pointer (some ⟨g1, 0, none⟩)))]) ⟨Z, trivial⟩ (dg_plain Z (ow_fieldAddr Z Z Tryd.underlying27 Z (Tryd.sizeOf25 _) ⟨BX.refl _ _, Z⟩))
     ·
      intro w32 D hS16 hd16
      have hl32 := Le.no M3 hS16
      have ho24 := ho22.no hS16
      exact dg_sub (E' := [(44, (.pointer (some ⟨g1, 0, none⟩)))]) ⟨(dpE hd16 0 Z Z), trivial⟩ (dg_plain Z (ow_loadOwn1 Z Z Z ho24 (Tryd.isAgg25 _) Z ⟨BX.refl _ _, (VRep.mono (hz9.trans hl32) hw5)⟩))
     ·
      intro w33 D hS17 hd17
      exact dg_sub (E' := [(7, (.int .i64 k1))]) ⟨Z, trivial⟩ (dg_plain Z (ow_move Z Z ⟨BX.refl _ _, Z⟩))
     ·
      intro w34 D hS18 hd18
      have d27 : PV (RSlice (RSlice RSpan)) M3 y2 (D 1) w34 := dpA hd18 1 Z
      generalize hq6 : (D 1) = v32 at d27
      exact dg_sub (E' := [(45, v32), (46, (.int .i64 k1))]) ⟨(congrArg some hq6), (dpE hd18 2 Z Z), trivial⟩ (dg_plain Z (ow_indexSlice (R := (RSlice RSpan)) Z Z Z d27 Tryd.underlying25 (Tryd.sizeOf58 _) hx4 fun p14 hp14 => ⟨BX.refl _ _, ⟨_, Z, hp14⟩⟩))
     ·
      intro w35 D hS19 hd19
      have d29 : PA (RSlice RSpan) M3 x4 (D 3) w35 := dpA hd19 3 Z
      obtain ⟨p15, e4, ha4⟩ := d29
      exact dg_sub (E' := [(47, (.pointer (some p15)))]) ⟨(congrArg some e4), trivial⟩ (dg_plain Z (ow_load (R := (RSlice RSpan)) Z Z ha4 (Tryd.sizeOf58 _) (Tryd.isAgg58 _) fun v33 hv33 => ⟨BX.refl _ _, hv33⟩))
     ·
      intro w36 D hS20 hd20
      have hl36 := Le.no M3 hS20
      exact dg_sub (E' := [(3, (.pointer (some p2)))]) ⟨Z, trivial⟩ (dg_plain Z (ow_fieldAddr Z Z Tryd.underlying27 Z (Tryd.sizeOf25 _) ⟨BX.refl _ _, ⟨_, Z, (ARep.mono (hz8.trans hl36) (hp2.fld fld_Box_Sides))⟩⟩))
     ·
      intro w37 D hS21 hd21
      have d30 : PA (RSlice (RSlice RSpan)) M3 a_b.Sides (D 5) w37 := dpA hd21 5 Z
      obtain ⟨p16, e5, ha5⟩ := d30
      exact dg_sub (E' := [(49, (.pointer (some p16)))]) ⟨(congrArg some e5), trivial⟩ (dg_plain Z (ow_load (R := (RSlice (RSlice RSpan))) Z Z ha5 (Tryd.sizeOf25 _) (Tryd.isAgg25 _) fun v34 hv34 => ⟨BX.refl _ _, hv34⟩))
     ·
      intro w38 D hS22 hd22
      exact dg_sub (E' := [(7, (.int .i64 k1))]) ⟨Z, trivial⟩ (dg_plain Z (ow_move Z Z ⟨BX.refl _ _, Z⟩))
     ·
      intro w39 D hS23 hd23
      have d31 : PV (RSlice (RSlice RSpan)) M3 a_b.Sides (D 6) w39 := dpA hd23 6 Z
      generalize hq7 : (D 6) = v35 at d31
      exact dg_sub (E' := [(50, v35), (51, (.int .i64 k1))]) ⟨(congrArg some hq7), (dpE hd23 7 Z Z), trivial⟩ (dg_plain Z (ow_indexSlice (R := (RSlice RSpan)) Z Z Z d31 Tryd.underlying25 (Tryd.sizeOf58 _) hx5 fun p17 hp17 => ⟨BX.refl _ _, ⟨_, Z, hp17⟩⟩))
     ·
      intro w40 D hS24 hd24
      have d33 : PA (RSlice RSpan) M3 x5 (D 8) w40 := dpA hd24 8 Z
      obtain ⟨p18, e6, ha6⟩ := d33
      exact dg_sub (E' := [(52, (.pointer (some p18)))]) ⟨(congrArg some e6), trivial⟩ (dg_plain Z (ow_load (R := (RSlice RSpan)) Z Z ha6 (Tryd.sizeOf58 _) (Tryd.isAgg58 _) fun v36 hv36 => ⟨BX.refl _ _, hv36⟩))
     ·
      intro w41 D hS25 hd25
      have d38 : PV (RSlice RSpan) M3 x4 (D 4) w41 := dpA hd25 4 Z
      have d43 : PV (RSlice RSpan) M3 x5 (D 9) w41 := dpA hd25 9 Z
      have hl41 := Le.no M3 hS25
      have hC41 := hC30.no hS25
      have ho33 := ho22.no hS25
      have hr38 := hr27.no hS25
      generalize hq8 : (D 4) = v37 at d38
      generalize hq9 : (D 9) = v38 at d43
      refine lw_sub (E' := [(48, v37), (53, v38), (3, (.pointer (some p2))), (5, v10), (6, (.pointer (some ⟨g1, 0, none⟩))), (7, (.int .i64 k1)), (8, v28)]) ⟨(congrArg some hq8), (congrArg some hq9), Z, Z, Z, Z, Z, trivial⟩ ?_
      replace hb11 := bind_some hb11
      obtain ⟨x9, hx9, hb11⟩ := hb11
      refine lw_op Z Z Z (ow_call Z Z Tryd.call60 (w_spec_l2Meet (hG.mono (hz7.trans hl41)) hC41.old d38 d43 hx9) fun v39 w42 hv39 => ?_)
      obtain ⟨hv39, hb17⟩ := hv39
      have hl42 := Le.no M3 hb17
      have hC42 := hC41.no hb17
      have ho34 := ho33.no hb17
      have hr39 := hr38.no hb17
      refine lw_op Z Z Z (ow_assign Z Z (lw_nil (ew_then (cw_seq (cw_seq (cw_region (lw_op Z Z Z (ow_move Z Z (lw_op Z Z Z (ow_len Z Z (VRep.mono (hl41.trans hl42) hv28) Tryd.underlying58 Z (lw_op Z Z Z (ow_gtr Z Z Z fun bb2 hbb2 => lw_nil (ew_then ?_)))))))))))))
      replace hb11 := cond_some hb11
      rcases hb11 with ⟨hc4, hb11⟩ | ⟨hc4, hb11⟩
      ·
       obtain rfl := hbb2.trans hc4
       refine cw_true Z (cw_seq (cw_region (lw_op Z Z Z (ow_fieldAddr Z Z Tryd.underlying27 Z (Tryd.sizeOf25 _) (lw_op Z Z Z (ow_loadOwn1 Z Z Z ho34 (Tryd.isAgg25 _) Z ?_))))))
       have hz10 := ((hz9.trans hl41).trans hl42)
       replace hb11 := bind_some hb11
       obtain ⟨x10, hx10, hb11⟩ := hb11
       have hz11 := ((hz7.trans hl41).trans hl42)
       refine lw_op Z Z Z (ow_call Z Z Tryd.call106 (wo_spec_l1OwnRowsSpan (hG.mono hz11) hC42.old (VRep.mono hz10 hw5) hx10) fun v40 w43 hv40 => ?_)
       obtain ⟨⟨M4, hr40, hk1⟩, hb18⟩ := hv40
       replace hr40 := hr40.base hC42.bx.size
       have hl43 := hk1.le
       have hC43 := hC42.trans hk1
       have ho35 := ho34.no hb18
       have hm3 := hk1.sup _ hm2
       have hr41 := hr39.go hb18 (fun _ _ e => e) hl43 hk1.sup
       obtain ⟨A3, c3, rfl⟩ := hr40.len
       refine lw_op Z Z Z (ow_build (v := .agg #[(.slice A3 x10.length c3)]) Z Z (by kernel_rfl) (lw_op Z Z Z (ow_alloc Z (Tryd.zeroValue27 _) hC43 fun g2 w44 hg3 hg4 ho36 hb19 hl44 hC44 => ?_)))
       have hn3 := Nat.ne_of_lt (Nat.lt_of_lt_of_le ho35.lt hg3)
       have ho37 := ho35.no hb19
       have hm4 : (Add g2 M4) g1 := .inr hm3
       have hn4 := nb_fresh hr41 hg3
       have hr42 := hr41.add hb19 hg3
       have hr43 := hr40.add hb19 hg3
       have hm5 : (Add g2 M4) g2 := .inl Z
       refine lw_op0 Z Z (ow_store (X := No) (us := [(.slice A3 x10.length c3)]) (cs' := #[(.slice A3 x10.length c3)]) Z Z Z Z ho36 (Tryd.sizeOf27 _) Z Z Z Z hm5 (.inl hg4) Z hC44 fun w45 ho38 hb20 hl45 hC45 => ?_)
       have ho39 := ho37.go hb20 (fun e => hn3 e)
       have hr44 := hr42.go hb20 (fun k hk e => hn4 (hk.trans (congrArg some e))) hl45 (fun _ h => h)
       have hr45 := hr43.go hb20 (fun k hk e => (orow_ne hr43 ho36 (by decide)) (hk.trans (congrArg some e))) hl45 (fun _ h => h)
       refine lw_nil (ew_then (cw_seq (cw_region (lw_op Z Z Z (ow_fieldAddr Z Z Tryd.underlying27 Z (Tryd.sizeOf25 _) (lw_op Z Z Z (ow_loadOwn1 Z Z Z ho38 (Tryd.isAgg25 _) Z (lw_op Z Z Z (ow_move Z Z (lw_op Z Z Z (ow_move Z Z ?_)))))))))))
       replace hb11 := bind_some hb11
       obtain ⟨x11, hx11, hb11⟩ := hb11
       refine lw_op Z Z Z (ow_indexRow (R := (RSlice RSpan)) Z Z Z hr45 Tryd.underlying25 (Tryd.sizeOf58 _) hx11 ?_)
       have hz12 := ((((hl41.trans hl42).trans hl43).trans hl44).trans hl45)
       refine lw_op0 Z Z (ow_storeElRow (X := No) (R := (RSlice RSpan)) (S := (RSlice RSpan)) Z Z Z Z hr45 (orow_blk hr45 hx11) hx11 (FldSet.whole (RSlice RSpan)) (Tryd.sizeOf58 _) (VRep.mono hz12 hv28) (Nat.le_refl _) hC45 fun w46 ho40 hb21 hl46 hC46 => ?_)
       have ho41 := ho39.go hb21 (fun e => (orow_ne hr45 ho39 (by decide)) (by rw [orow_blk hr45 hx11]; exact congrArg some e.symm))
       have ho42 := ho38.go hb21 (fun e => (orow_ne hr45 ho38 (by decide)) (by rw [orow_blk hr45 hx11]; exact congrArg some e.symm))
       have hr46 := hr44.go hb21 (fun k hk e => orow_row_ne hr44 hr45 (by decide) hk (by rw [orow_blk hr45 hx11]; exact congrArg some e.symm)) hl46 (fun _ h => h)
       refine lw_nil (ew_then (cw_region (lw_op Z Z Z (ow_move Z Z (lw_op Z Z Z (ow_loadOwnA Z Z Z ho42 (Tryd.isAgg27 _) (Tryd.sizeOf27 _) Z ?_))))))
       have hw6 := ho40.freezeDel
       have hC47 := ho40.cxDel hC46 (fun _ e => e.elim) hO
       have hl47 := Le.del w46 (Add g2 M4) (.slice A3 x10.length c3)
       have hm6 : (Del (.slice A3 x10.length c3) (Add g2 M4)) g1 := ⟨hm4, fun e => (orow_ne ho40 ho41 (by decide)) e⟩
       have hr47 := hr46.goDel ho40 (by decide)
       have hw7 : VRep RBox w46 (Del (.slice A3 x10.length c3) (Add g2 M4)) ({ Sides := (List.set x10 (k1 : Int).toNat x8) } : Box) (.agg #[(.slice A3 x10.length c3)]) := shut_Box hw6
       refine lw_op Z Z Z (ow_buildSlice (R := RBox) (xs := [({ Sides := (List.set x10 (k1 : Int).toNat x8) } : Box)]) (cs := #[(.slice A3 x10.length c3)]) (e := 27) Z Z (by kernel_rfl) Z Z ⟨_, _, Z, hw7.cells, Z⟩ hC47 fun p19 w47 hw8 hb22 hl48 hC48 => ?_)
       have ho43 := ho41.no hb22
       have hr48 := hr47.no hb22
       replace hb11 := bind_some hb11
       obtain ⟨z2, hz2, hb11⟩ := hb11
       refine lw_op Z Z Z (ow_append (R := RBox) Z Z Z Z Tryd.underlying34 hi27 hz27 hs27 hy27 Z Z Z Z hr48 hw8 hz2 hC48 fun v41 w48 M5 hr49 hb23 hl49 hC49 hM3 hat3 => ?_)
       have hn5 : v41.ownBlock ≠ some g1 := nb_app hn2 hat3 ho43
       have ho45 := ho43.go hb23 (fun e => hn2 e)
       have hm8 := hM3 _ hm6
       refine lw_op Z Z Z (ow_assign Z Z (lw_nil (ew_then (cw_seq (cw_region (lw_op Z Z Z (ow_fieldAddr Z Z Tryd.underlying27 Z (Tryd.sizeOf25 _) (lw_op Z Z Z (ow_loadOwn1 Z Z Z ho45 (Tryd.isAgg25 _) Z ?_)))))))))
       have hz13 := (((((((hz10.trans hl43).trans hl44).trans hl45).trans hl46).trans hl47).trans hl48).trans hl49)
       have hz14 := (((((((hz11.trans hl43).trans hl44).trans hl45).trans hl46).trans hl47).trans hl48).trans hl49)
       refine lw_op Z Z Z (ow_call Z Z Tryd.call106 (wo_spec_l1OwnRowsSpan (hG.mono hz14) hC49.old (VRep.mono hz13 hw5) hx10) fun v42 w49 hv42 => ?_)
       obtain ⟨⟨M6, hr50, hk2⟩, hb24⟩ := hv42
       replace hr50 := hr50.base hC49.bx.size
       have hl50 := hk2.le
       have hC50 := hC49.trans hk2
       have ho47 := ho45.no hb24
       have hm10 := hk2.sup _ hm8
       have hr51 := hr49.go hb24 (fun _ _ e => e) hl50 hk2.sup
       obtain ⟨A4, c4, rfl⟩ := hr50.len
       refine lw_op Z Z Z (ow_build (v := .agg #[(.slice A4 x10.length c4)]) Z Z (by kernel_rfl) (lw_op Z Z Z (ow_alloc Z (Tryd.zeroValue27 _) hC50 fun g3 w50 hg5 hg6 ho49 hb25 hl51 hC51 => ?_)))
       have hn7 := Nat.ne_of_lt (Nat.lt_of_lt_of_le ho47.lt hg5)
       have ho50 := ho47.no hb25
       have hm12 : (Add g3 M6) g1 := .inr hm10
       have hn9 := nb_fresh hr51 hg5
       have hr52 := hr51.add hb25 hg5
       have hr53 := hr50.add hb25 hg5
       have hm14 : (Add g3 M6) g3 := .inl Z
       refine lw_op0 Z Z (ow_store (X := No) (us := [(.slice A4 x10.length c4)]) (cs' := #[(.slice A4 x10.length c4)]) Z Z Z Z ho49 (Tryd.sizeOf27 _) Z Z Z Z hm14 (.inl hg6) Z hC51 fun w51 ho52 hb26 hl52 hC52 => ?_)
       have ho53 := ho50.go hb26 (fun e => hn7 e)
       have hr54 := hr52.go hb26 (fun k hk e => hn9 (hk.trans (congrArg some e))) hl52 (fun _ h => h)
       have hr55 := hr53.go hb26 (fun k hk e => (orow_ne hr53 ho49 (by decide)) (hk.trans (congrArg some e))) hl52 (fun _ h => h)
       refine lw_nil (ew_then (cw_seq (cw_region (lw_op Z Z Z (ow_fieldAddr Z Z Tryd.underlying27 Z (Tryd.sizeOf25 _) (lw_op Z Z Z (ow_loadOwn1 Z Z Z ho52 (Tryd.isAgg25 _) Z (lw_op Z Z Z (ow_move Z Z (lw_op Z Z Z (ow_move Z Z (lw_op Z Z Z (ow_indexRow (R := (RSlice RSpan)) Z Z Z hr55 Tryd.underlying25 (Tryd.sizeOf58 _) hx11 ?_)))))))))))))
       have hz15 := (((((((((hl43.trans hl44).trans hl45).trans hl46).trans hl47).trans hl48).trans hl49).trans hl50).trans hl51).trans hl52)
       refine lw_op0 Z Z (ow_storeElRow (X := No) (R := (RSlice RSpan)) (S := (RSlice RSpan)) Z Z Z Z hr55 (orow_blk hr55 hx11) hx11 (FldSet.whole (RSlice RSpan)) (Tryd.sizeOf58 _) (VRep.mono hz15 hv39) (Nat.le_refl _) hC52 fun w52 ho55 hb27 hl53 hC53 => ?_)
       have ho56 := ho53.go hb27 (fun e => (orow_ne hr55 ho53 (by decide)) (by rw [orow_blk hr55 hx11]; exact congrArg some e.symm))
       have ho58 := ho52.go hb27 (fun e => (orow_ne hr55 ho52 (by decide)) (by rw [orow_blk hr55 hx11]; exact congrArg some e.symm))
       have hr56 := hr54.go hb27 (fun k hk e => orow_row_ne hr54 hr55 (by decide) hk (by rw [orow_blk hr55 hx11]; exact congrArg some e.symm)) hl53 (fun _ h => h)
       refine lw_nil (ew_then (cw_region (lw_op Z Z Z (ow_loadOwnA Z Z Z ho58 (Tryd.isAgg27 _) (Tryd.sizeOf27 _) Z ?_))))
       have hw9 := ho55.freezeDel
       have hC54 := ho55.cxDel hC53 (fun _ e => e.elim) hO
       have hl54 := Le.del w52 (Add g3 M6) (.slice A4 x10.length c4)
       have hm15 : (Del (.slice A4 x10.length c4) (Add g3 M6)) g1 := ⟨hm12, fun e => (orow_ne ho55 ho56 (by decide)) e⟩
       have hr57 := hr56.goDel ho55 (by decide)
       refine lw_op0 Z Z (ow_store (X := No) (us := [(.slice A4 x10.length c4)]) (cs' := #[(.slice A4 x10.length c4)]) Z Z Z Z ho56 (Tryd.sizeOf27 _) Z Z Z Z hm15 (.inl hg2) Z hC54 fun w53 ho59 hb28 hl55 hC55 => ?_)
       have hr58 := hr57.go hb28 (fun k hk e => hn5 (hk.trans (congrArg some e))) hl55 (fun _ h => h)
       refine lw_nil (ew_blockN (ew_then (cw_region (lw_op Z Z Z (ow_move Z Z (lw_op Z Z Z (ow_add Z Z Z (lw_op Z Z Z (ow_assign Z Z (lw_nil ?_))))))))))
       have hz16 := (((((((((((((((((hl11.trans hl29).trans hl30).trans hl41).trans hl42).trans hl43).trans hl44).trans hl45).trans hl46).trans hl47).trans hl48).trans hl49).trans hl50).trans hl51).trans hl52).trans hl53).trans hl54).trans hl55)
       exact ew_nxt (z2, (W (k1 + 1)), (List.set x10 (k1 : Int).toNat x9)) hb11 fun a ha => ⟨(Del (.slice A4 x10.length c4) (Add g3 M6)), v41, (.slice A4 x10.length c4), (ha.sub ⟨Z, Z, Z, Z, trivial⟩), hz16, hC55, hr58, (VRep.mono hl55 hw9), ho59, hm15, hn5⟩
      ·
       obtain rfl := hbb2.trans hc4
       refine cw_false Z (cw_skip (ew_then (cw_seq (cw_region (lw_op Z Z Z (ow_fieldAddr Z Z Tryd.underlying27 Z (Tryd.sizeOf25 _) (lw_op Z Z Z (ow_loadOwn1 Z Z Z ho34 (Tryd.isAgg25 _) Z ?_))))))))
       have hz17 := ((hz9.trans hl41).trans hl42)
       replace hb11 := bind_some hb11
       obtain ⟨x12, hx12, hb11⟩ := hb11
       have hz18 := ((hz7.trans hl41).trans hl42)
       refine lw_op Z Z Z (ow_call Z Z Tryd.call106 (wo_spec_l1OwnRowsSpan (hG.mono hz18) hC42.old (VRep.mono hz17 hw5) hx12) fun v43 w54 hv43 => ?_)
       obtain ⟨⟨M7, hr59, hk3⟩, hb29⟩ := hv43
       replace hr59 := hr59.base hC42.bx.size
       have hl56 := hk3.le
       have hC56 := hC42.trans hk3
       have ho62 := ho34.no hb29
       have hm18 := hk3.sup _ hm2
       have hr60 := hr39.go hb29 (fun _ _ e => e) hl56 hk3.sup
       obtain ⟨A5, c5, rfl⟩ := hr59.len
       refine lw_op Z Z Z (ow_build (v := .agg #[(.slice A5 x12.length c5)]) Z Z (by kernel_rfl) (lw_op Z Z Z (ow_alloc Z (Tryd.zeroValue27 _) hC56 fun g4 w55 hg7 hg8 ho63 hb30 hl57 hC57 => ?_)))
       have hn10 := Nat.ne_of_lt (Nat.lt_of_lt_of_le ho62.lt hg7)
       have ho64 := ho62.no hb30
       have hm19 : (Add g4 M7) g1 := .inr hm18
       have hn11 := nb_fresh hr60 hg7
       have hr61 := hr60.add hb30 hg7
       have hr62 := hr59.add hb30 hg7
       have hm20 : (Add g4 M7) g4 := .inl Z
       refine lw_op0 Z Z (ow_store (X := No) (us := [(.slice A5 x12.length c5)]) (cs' := #[(.slice A5 x12.length c5)]) Z Z Z Z ho63 (Tryd.sizeOf27 _) Z Z Z Z hm20 (.inl hg8) Z hC57 fun w56 ho65 hb31 hl58 hC58 => ?_)
       have ho66 := ho64.go hb31 (fun e => hn10 e)
       have hr63 := hr61.go hb31 (fun k hk e => hn11 (hk.trans (congrArg some e))) hl58 (fun _ h => h)
       have hr64 := hr62.go hb31 (fun k hk e => (orow_ne hr62 ho63 (by decide)) (hk.trans (congrArg some e))) hl58 (fun _ h => h)
       refine lw_nil (ew_then (cw_seq (cw_region (lw_op Z Z Z (ow_fieldAddr Z Z Tryd.underlying27 Z (Tryd.sizeOf25 _) (lw_op Z Z Z (ow_loadOwn1 Z Z Z ho65 (Tryd.isAgg25 _) Z (lw_op Z Z Z (ow_move Z Z (lw_op Z Z Z (ow_move Z Z ?_)))))))))))
       replace hb11 := bind_some hb11
       obtain ⟨x13, hx13, hb11⟩ := hb11
       refine lw_op Z Z Z (ow_indexRow (R := (RSlice RSpan)) Z Z Z hr64 Tryd.underlying25 (Tryd.sizeOf58 _) hx13 ?_)
       have hz19 := ((hl56.trans hl57).trans hl58)
       refine lw_op0 Z Z (ow_storeElRow (X := No) (R := (RSlice RSpan)) (S := (RSlice RSpan)) Z Z Z Z hr64 (orow_blk hr64 hx13) hx13 (FldSet.whole (RSlice RSpan)) (Tryd.sizeOf58 _) (VRep.mono hz19 hv39) (Nat.le_refl _) hC58 fun w57 ho67 hb32 hl59 hC59 => ?_)
       have ho68 := ho66.go hb32 (fun e => (orow_ne hr64 ho66 (by decide)) (by rw [orow_blk hr64 hx13]; exact congrArg some e.symm))
       have ho69 := ho65.go hb32 (fun e => (orow_ne hr64 ho65 (by decide)) (by rw [orow_blk hr64 hx13]; exact congrArg some e.symm))
       have hr65 := hr63.go hb32 (fun k hk e => orow_row_ne hr63 hr64 (by decide) hk (by rw [orow_blk hr64 hx13]; exact congrArg some e.symm)) hl59 (fun _ h => h)
       refine lw_nil (ew_then (cw_region (lw_op Z Z Z (ow_loadOwnA Z Z Z ho69 (Tryd.isAgg27 _) (Tryd.sizeOf27 _) Z ?_))))
       have hw11 := ho67.freezeDel
       have hC60 := ho67.cxDel hC59 (fun _ e => e.elim) hO
       have hl60 := Le.del w57 (Add g4 M7) (.slice A5 x12.length c5)
       have hm21 : (Del (.slice A5 x12.length c5) (Add g4 M7)) g1 := ⟨hm19, fun e => (orow_ne ho67 ho68 (by decide)) e⟩
       have hr66 := hr65.goDel ho67 (by decide)
       refine lw_op0 Z Z (ow_store (X := No) (us := [(.slice A5 x12.length c5)]) (cs' := #[(.slice A5 x12.length c5)]) Z Z Z Z ho68 (Tryd.sizeOf27 _) Z Z Z Z hm21 (.inl hg2) Z hC60 fun w58 ho70 hb33 hl61 hC61 => ?_)
       have hr67 := hr66.go hb33 (fun k hk e => hn2 (hk.trans (congrArg some e))) hl61 (fun _ h => h)
       refine lw_nil (ew_blockN (ew_then (cw_region (lw_op Z Z Z (ow_move Z Z (lw_op Z Z Z (ow_add Z Z Z (lw_op Z Z Z (ow_assign Z Z (lw_nil ?_))))))))))
       have hz20 := ((((((((((hl11.trans hl29).trans hl30).trans hl41).trans hl42).trans hl56).trans hl57).trans hl58).trans hl59).trans hl60).trans hl61)
       exact ew_nxt (y1, (W (k1 + 1)), (List.set x12 (k1 : Int).toNat x9)) hb11 fun a ha => ⟨(Del (.slice A5 x12.length c5) (Add g4 M7)), v10, (.slice A5 x12.length c5), (ha.sub ⟨Z, Z, Z, Z, trivial⟩), hz20, hC61, hr67, (VRep.mono hl61 hw11), ho70, hm21, hn2⟩
   ·
    obtain rfl := hbb1.trans hc3
    exact cw_false Z (cw_exit (ew_thenX (ew_thenX (ew_blockX (ew_brk (y1, k1, y2) hb11 fun a ha => ⟨M3, v10, v12, (ha.sub ⟨Z, Z, Z, Z, trivial⟩), hl11, hC11, hw4, hw5, ho3, hm2, hn2⟩)))))
  ·
   rintro ⟨y3, k2, y4⟩ a w59 hlr2 ⟨M8, v44, v46, hF2, hl62, hC62, hw13, hw14, ho72, hm23, hn12⟩
   subst hlr2
   refine ew_at (E := [(3, (.pointer (some p2))), (5, v44), (6, (.pointer (some ⟨g1, 0, none⟩))), (7, (.int .i64 k2))]) hF2 (ew_then (cw_seq (cw_region (lw_op Z Z Z (ow_move Z Z (lw_op Z Z Z (ow_assign Z Z (lw_nil (ew_then (cw_ret ?_))))))))))
   obtain rfl := Option.some.inj h
   exact ew_ret (res1 Z (.tmp Z)) ⟨_, Z, (hw13.freezeBack hC62 hO), hC62.bx⟩

theorem w_spec_BoxWithin {w : World} {M : Nat → Prop} (hG : ARep (RArr 4 RShape) w M shapes ⟨0, 0, none⟩) (hO : ∀ b, M b → b < w.heap.size) {v0p : Value} {a_a : Box} (h0 : VRep RBox w M a_a v0p) {v1p : Value} {a_b : Box} (h1 : VRep RBox w M a_b v1p) {r : Bool} (h : F.spec_BoxWithin a_a a_b = some r) :
  Calls Tryd.prog 89 [v0p, v1p].toArray w fun e w' => ∃ v, e = .returned v ∧ VRep RBool w' M r v ∧ BX No w w' := by
 have hC : Cx No w M w M := Cx.start hO (fun _ e => e.elim)
 refine walk (N := 18) Tryd.func89 Z Tryd.ntmps89 Z (cw_seq (cw_region (lw_op Z Z Z (ow_box (R := RBox) Z Z h0 hC fun p1 w1 hp1 hb1 hl1 hC1 => lw_op Z Z Z (ow_box (R := RBox) Z Z (VRep.mono hl1 h1) hC1 fun p2 w2 hp2 hb2 hl2 hC2 => lw_op Z Z Z (ow_assign Z Z (lw_nil (ew_then (cw_seq (cw_region (lw_op Z Z Z (ow_load (R := RBox) Z Z (ARep.mono hl2 hp1) (Tryd.sizeOf27 _) (Tryd.isAgg27 _) fun v1 hv1 => ?_))))))))))))
 replace h := bind_some h
 obtain ⟨x1, hx1, h⟩ := h
 refine lw_op Z Z Z (ow_call Z Z Tryd.call38 (w_spec_BoxValid (hG.mono (hl1.trans hl2)) hC2.old hv1 hx1) fun v2 w3 hv2 => ?_)
 obtain ⟨hv2, hb3⟩ := hv2
 have hl3 := Le.no M hb3
 have hC3 := hC2.no hb3
 obtain rfl := vbool_eq hv2
 refine lw_op Z Z Z (ow_move Z Z ?_)
 replace h := cond_some h
 rcases h with ⟨hc1, h⟩ | ⟨hc1, h⟩
 ·
  subst hc1
  refine lw_on Z Z Z Z Z Z (ow_load (R := RBox) Z Z (ARep.mono hl3 hp2) (Tryd.sizeOf27 _) (Tryd.isAgg27 _) fun v3 hv3 => ?_)
  replace h := bind_some h
  obtain ⟨x2, hx2, h⟩ := h
  have hz1 := ((hl1.trans hl2).trans hl3)
  refine lw_on Z Z Z Z Z Z (ow_call Z Z Tryd.call38 (w_spec_BoxValid (hG.mono hz1) hC3.old hv3 hx2) fun v4 w4 hv4 => ?_)
  obtain ⟨hv4, hb4⟩ := hv4
  have hl4 := Le.no M hb4
  have hC4 := hC3.no hb4
  obtain rfl := vbool_eq hv4
  refine lw_op Z Z Z (ow_pickT Z Z Z (lw_op Z Z Z (ow_move Z Z ?_)))
  replace h := cond_some h
  rcases h with ⟨hc2, h⟩ | ⟨hc2, h⟩
  ·
   subst hc2
   have hz2 := ((hl2.trans hl3).trans hl4)
   refine lw_on Z Z Z Z Z Z (ow_load (R := RBox) Z Z (ARep.mono hz2 hp1) (Tryd.sizeOf27 _) (Tryd.isAgg27 _) fun v5 hv5 => lw_on Z Z Z Z Z Z (ow_load (R := RBox) Z Z (ARep.mono (hl3.trans hl4) hp2) (Tryd.sizeOf27 _) (Tryd.isAgg27 _) fun v6 hv6 => ?_))
   replace h := bind_some h
   obtain ⟨x3, hx3, h⟩ := h
   refine lw_on Z Z Z Z Z Z (ow_call Z Z Tryd.call108 (w_spec_l11Cut (hG.mono (hz1.trans hl4)) hC4.old hv5 hv6 hx3) fun v7 w5 hv7 => ?_)
   obtain ⟨hv7, hb5⟩ := hv7
   have hC5 := hC4.no hb5
   refine lw_on Z Z Z Z Z Z (ow_len Z Z hv7 Tryd.underlying34 Z (lw_on Z Z Z Z Z Z (ow_eqlI Z Z Z fun bb1 hbb1 => lw_op Z Z Z (ow_pickT Z Z Z (lw_op Z Z Z (ow_assign Z Z (lw_nil (ew_then (cw_ret ?_)))))))))
   obtain rfl := Option.some.inj h
   exact ew_ret (res1 Z (.tmp Z)) ⟨_, Z, ((vbool_of hbb1)), hC5.bx⟩
  ·
   subst hc2
   refine lw_off Z Z Z Z Z Z (lw_off Z Z Z Z Z Z (lw_off Z Z Z Z Z Z (lw_off Z Z Z Z Z Z (lw_off Z Z Z Z Z Z (lw_op Z Z Z (ow_pickF Z Z Z (lw_op Z Z Z (ow_assign Z Z (lw_nil (ew_then (cw_ret ?_)))))))))))
   obtain rfl := Option.some.inj h
   exact ew_ret (res1 Z (.tmp Z)) ⟨_, Z, ((vbool _)), hC4.bx⟩
 ·
  subst hc1
  refine lw_off Z Z Z Z Z Z (lw_off Z Z Z Z Z Z (lw_op Z Z Z (ow_pickF Z Z Z (lw_op Z Z Z (ow_move Z Z (lw_off Z Z Z Z Z Z (lw_off Z Z Z Z Z Z (lw_off Z Z Z Z Z Z (lw_off Z Z Z Z Z Z (lw_off Z Z Z Z Z Z (lw_op Z Z Z (ow_pickF Z Z Z (lw_op Z Z Z (ow_assign Z Z (lw_nil (ew_then (cw_ret ?_)))))))))))))))))
  obtain rfl := Option.some.inj h
  exact ew_ret (res1 Z (.tmp Z)) ⟨_, Z, ((vbool _)), hC3.bx⟩

theorem w_spec_BoxSame {w : World} {M : Nat → Prop} (hG : ARep (RArr 4 RShape) w M shapes ⟨0, 0, none⟩) (hO : ∀ b, M b → b < w.heap.size) {v0p : Value} {a_a : Box} (h0 : VRep RBox w M a_a v0p) {v1p : Value} {a_b : Box} (h1 : VRep RBox w M a_b v1p) {r : Bool} (h : F.spec_BoxSame a_a a_b = some r) :
  Calls Tryd.prog 47 [v0p, v1p].toArray w fun e w' => ∃ v, e = .returned v ∧ VRep RBool w' M r v ∧ BX No w w' := by
 have hC : Cx No w M w M := Cx.start hO (fun _ e => e.elim)
 refine walk (N := 13) Tryd.func47 Z Tryd.ntmps47 Z (cw_seq (cw_region (lw_op Z Z Z (ow_box (R := RBox) Z Z h0 hC fun p1 w1 hp1 hb1 hl1 hC1 => lw_op Z Z Z (ow_box (R := RBox) Z Z (VRep.mono hl1 h1) hC1 fun p2 w2 hp2 hb2 hl2 hC2 => lw_op Z Z Z (ow_assign Z Z (lw_nil (ew_then (cw_seq (cw_region (lw_op Z Z Z (ow_load (R := RBox) Z Z (ARep.mono hl2 hp1) (Tryd.sizeOf27 _) (Tryd.isAgg27 _) fun v1 hv1 => lw_op Z Z Z (ow_load (R := RBox) Z Z hp2 (Tryd.sizeOf27 _) (Tryd.isAgg27 _) fun v2 hv2 => ?_)))))))))))))
 replace h := bind_some h
 obtain ⟨x1, hx1, h⟩ := h
 refine lw_op Z Z Z (ow_call Z Z Tryd.call89 (w_spec_BoxWithin (hG.mono (hl1.trans hl2)) hC2.old hv1 hv2 hx1) fun v3 w3 hv3 => ?_)
 obtain ⟨hv3, hb3⟩ := hv3
 have hl3 := Le.no M hb3
 have hC3 := hC2.no hb3
 obtain rfl := vbool_eq hv3
 refine lw_op Z Z Z (ow_move Z Z ?_)
 replace h := cond_some h
 rcases h with ⟨hc1, h⟩ | ⟨hc1, h⟩
 ·
  subst hc1
  refine lw_on Z Z Z Z Z Z (ow_load (R := RBox) Z Z (ARep.mono hl3 hp2) (Tryd.sizeOf27 _) (Tryd.isAgg27 _) fun v4 hv4 => lw_on Z Z Z Z Z Z (ow_load (R := RBox) Z Z (ARep.mono (hl2.trans hl3) hp1) (Tryd.sizeOf27 _) (Tryd.isAgg27 _) fun v5 hv5 => ?_))
  replace h := bind_some h
  obtain ⟨x2, hx2, h⟩ := h
  have hz1 := ((hl1.trans hl2).trans hl3)
  refine lw_on Z Z Z Z Z Z (ow_call Z Z Tryd.call89 (w_spec_BoxWithin (hG.mono hz1) hC3.old hv4 hv5 hx2) fun v6 w4 hv6 => ?_)
  obtain ⟨hv6, hb4⟩ := hv6
  have hC4 := hC3.no hb4
  obtain rfl := vbool_eq hv6
  refine lw_op Z Z Z (ow_pickT Z Z Z (lw_op Z Z Z (ow_assign Z Z (lw_nil (ew_then (cw_ret ?_))))))
  obtain rfl := Option.some.inj h
  exact ew_ret (res1 Z (.tmp Z)) ⟨_, Z, ((vbool _)), hC4.bx⟩
 ·
  subst hc1
  refine lw_off Z Z Z Z Z Z (lw_off Z Z Z Z Z Z (lw_off Z Z Z Z Z Z (lw_op Z Z Z (ow_pickF Z Z Z (lw_op Z Z Z (ow_assign Z Z (lw_nil (ew_then (cw_ret ?_)))))))))
  obtain rfl := Option.some.inj h
  exact ew_ret (res1 Z (.tmp Z)) ⟨_, Z, ((vbool _)), hC3.bx⟩

theorem w_impl_BoxEmpty {w : World} {M : Nat → Prop} (hG : ARep (RArr 4 RShape) w M shapes ⟨0, 0, none⟩) (hO : ∀ b, M b → b < w.heap.size) {v0p : Value} {a_b : Box} (h0 : VRep RBox w M a_b v0p) {r : Bool} (h : F.impl_BoxEmpty a_b = some r) :
  Calls Tryd.prog 48 [v0p].toArray w fun e w' => ∃ v, e = .returned v ∧ VRep RBool w' M r v ∧ BX No w w' := by
 have hC : Cx No w M w M := Cx.start hO (fun _ e => e.elim)
 refine walk (N := 10) Tryd.func48 Z Tryd.ntmps48 Z (cw_seq (cw_region (lw_op Z Z Z (ow_box (R := RBox) Z Z h0 hC fun p1 w1 hp1 hb1 hl1 hC1 => lw_op Z Z Z (ow_assign Z Z (lw_nil (ew_then (cw_seq (cw_region (lw_op Z Z Z (ow_load (R := RBox) Z Z hp1 (Tryd.sizeOf27 _) (Tryd.isAgg27 _) fun v1 hv1 => ?_)))))))))))
 replace h := bind_some h
 obtain ⟨x1, hx1, h⟩ := h
 refine lw_op Z Z Z (ow_call Z Z Tryd.call30 (w_impl_BoxValid (hG.mono hl1) hC1.old hv1 hx1) fun v2 w2 hv2 => ?_)
 obtain ⟨hv2, hb2⟩ := hv2
 have hl2 := Le.no M hb2
 have hC2 := hC1.no hb2
 obtain rfl := vbool_eq hv2
 refine lw_op Z Z Z (ow_move Z Z ?_)
 replace h := cond_some h
 rcases h with ⟨hc1, h⟩ | ⟨hc1, h⟩
 ·
  subst hc1
  refine lw_on Z Z Z Z Z Z (ow_load (R := RBox) Z Z (ARep.mono hl2 hp1) (Tryd.sizeOf27 _) (Tryd.isAgg27 _) fun v3 hv3 => ?_)
  replace h := bind_some h
  obtain ⟨x2, hx2, h⟩ := h
  refine lw_on Z Z Z Z Z Z (ow_call Z Z Tryd.call65 (w_impl_sidesOf (hG.mono (hl1.trans hl2)) hC2.old hv3 hx2) fun v4 w3 hv4 => ?_)
  obtain ⟨hv4, hb3⟩ := hv4
  have hl3 := Le.no M hb3
  have hC3 := hC2.no hb3
  replace h := bind_some h
  obtain ⟨x3, hx3, h⟩ := h
  have hz1 := ((hl1.trans hl2).trans hl3)
  refine lw_on Z Z Z Z Z Z (ow_call Z Z Tryd.call90 (w_impl_sides_empty (hG.mono hz1) hC3.old hv4 hx3) fun v5 w4 hv5 => ?_)
  obtain ⟨hv5, hb4⟩ := hv5
  have hC4 := hC3.no hb4
  obtain rfl := vbool_eq hv5
  refine lw_op Z Z Z (ow_pickT Z Z Z (lw_op Z Z Z (ow_assign Z Z (lw_nil (ew_then (cw_ret ?_))))))
  obtain rfl := Option.some.inj h
  exact ew_ret (res1 Z (.tmp Z)) ⟨_, Z, ((vbool _)), hC4.bx⟩
 ·
  subst hc1
  refine lw_off Z Z Z Z Z Z (lw_off Z Z Z Z Z Z (lw_off Z Z Z Z Z Z (lw_op Z Z Z (ow_pickF Z Z Z (lw_op Z Z Z (ow_assign Z Z (lw_nil (ew_then (cw_ret ?_)))))))))
  obtain rfl := Option.some.inj h
  exact ew_ret (res1 Z (.tmp Z)) ⟨_, Z, ((vbool _)), hC2.bx⟩

theorem w_laws_FnBoxSame {w : World} {M : Nat → Prop} (hG : ARep (RArr 4 RShape) w M shapes ⟨0, 0, none⟩) (hO : ∀ b, M b → b < w.heap.size) {v0p : Value} {a_code : List Int} (h0 : VRep (RSlice RU8) w M a_code v0p) {r : Bool} (h : F.laws_FnBoxSame a_code = some r) :
  Calls Tryd.prog 11 [v0p].toArray w fun e w' => ∃ v, e = .returned v ∧ VRep RBool w' M r v ∧ BX No w w' := by
 have hC : Cx No w M w M := Cx.start hO (fun _ e => e.elim)
 refine walk (N := 60) Tryd.func11 Z Tryd.ntmps11 Z (cw_seq (cw_region (lw_op Z Z Z (ow_assign Z Z (lw_nil (ew_then (cw_seq (cw_seq (cw_region (lw_op Z Z Z (ow_move Z Z (lw_op Z Z Z (ow_len Z Z h0 Tryd.underlying22 Z (lw_op Z Z Z (ow_gtr Z Z Z fun bb1 hbb1 => lw_nil (ew_then ?_))))))))))))))))
 replace h := cond_some h
 rcases h with ⟨hc1, h⟩ | ⟨hc1, h⟩
 ·
  obtain rfl := hbb1.trans hc1
  refine cw_true Z (cw_seq (cw_region (lw_op Z Z Z (ow_assign Z Z (lw_nil (ew_then (cw_ret (ew_thenR ?_))))))))
  obtain rfl := Option.some.inj h
  exact ew_ret (res1 Z (.tmp Z)) ⟨_, Z, ((vbool _)), hC.bx⟩
 ·
  obtain rfl := hbb1.trans hc1
  refine cw_false Z (cw_skip (ew_then (cw_seq (cw_region (lw_op Z Z Z (ow_move Z Z ?_))))))
  replace h := bind_some h
  obtain ⟨x1, hx1, h⟩ := h
  refine lw_op Z Z Z (ow_call Z Z Tryd.call45 (w_spec_DrawBoxSame hG hC.old h0 hx1) fun v1 w1 hv1 => ?_)
  obtain ⟨⟨v2, v3, rfl, hv2, hv3⟩, hb1⟩ := hv1
  have hl1 := Le.no M hb1
  have hC1 := hC.no hb1
  refine lw_op Z Z Z (ow_move Z Z (lw_op Z Z Z (ow_extract Z Z Z (lw_op Z Z Z (ow_extract Z Z Z (lw_op Z Z Z (ow_alloc Z (Tryd.zeroValue27 _) hC1 fun g1 w2 hg1 hg2 ho1 hb2 hl2 hC2 => ?_)))))))
  have hm1 : (Add g1 M) g1 := .inl Z
  refine lw_op Z Z Z (ow_alloc Z (Tryd.zeroValue27 _) hC2 fun g2 w3 hg3 hg4 ho2 hb3 hl3 hC3 => ?_)
  have hn1 := Nat.ne_of_lt (Nat.lt_of_lt_of_le ho1.lt hg3)
  have ho3 := ho1.no hb3
  have hm2 : (Add g2 (Add g1 M)) g1 := .inr hm1
  have hm3 : (Add g2 (Add g1 M)) g2 := .inl Z
  obtain ⟨A1, c1, rfl, hw1⟩ := open_Box hv2
  refine lw_op0 Z Z (ow_store (X := No) (us := [(.slice A1 x1.1.Sides.length c1)]) (cs' := #[(.slice A1 x1.1.Sides.length c1)]) Z Z Z Z ho3 (Tryd.sizeOf27 _) Z Z Z Z hm2 (.inl hg2) Z hC3 fun w4 ho4 hb4 hl4 hC4 => ?_)
  have ho5 := ho2.go hb4 (fun e => hn1 e.symm)
  obtain ⟨A2, c2, rfl, hw2⟩ := open_Box hv3
  refine lw_op0 Z Z (ow_store (X := No) (us := [(.slice A2 x1.2.Sides.length c2)]) (cs' := #[(.slice A2 x1.2.Sides.length c2)]) Z Z Z Z ho5 (Tryd.sizeOf27 _) Z Z Z Z hm3 (.inl hg4) Z hC4 fun w5 ho6 hb5 hl5 hC5 => ?_)
  have ho7 := ho4.go hb5 (fun e => hn1 e)
  refine lw_nil (ew_then (cw_seq (cw_region (lw_op Z Z Z (ow_loadOwnA Z Z Z ho7 (Tryd.isAgg27 _) (Tryd.sizeOf27 _) Z ?_)))))
  have hz1 := (((hl2.trans hl3).trans hl4).trans hl5)
  have hw3 : VRep RBox w5 (Add g2 (Add g1 M)) ({ Sides := x1.1.Sides } : Box) (.agg #[(.slice A1 x1.1.Sides.length c1)]) := shut_Box (VRep.mono hz1 hw1)
  refine lw_op Z Z Z (ow_loadOwnA Z Z Z ho6 (Tryd.isAgg27 _) (Tryd.sizeOf27 _) Z ?_)
  have hw4 : VRep RBox w5 (Add g2 (Add g1 M)) ({ Sides := x1.2.Sides } : Box) (.agg #[(.slice A2 x1.2.Sides.length c2)]) := shut_Box (VRep.mono hz1 hw2)
  replace h := bind_some h
  obtain ⟨x2, hx2, h⟩ := h
  have hz2 := ((((hl1.trans hl2).trans hl3).trans hl4).trans hl5)
  refine lw_op Z Z Z (ow_call Z Z Tryd.call46 (w_impl_BoxSame (hG.mono hz2) hC5.old hw3 hw4 hx2) fun v4 w6 hv4 => ?_)
  obtain ⟨hv4, hb6⟩ := hv4
  have hl6 := Le.no (Add g2 (Add g1 M)) hb6
  have hC6 := hC5.no hb6
  have ho8 := ho7.no hb6
  have ho9 := ho6.no hb6
  obtain rfl := vbool_eq hv4
  refine lw_op Z Z Z (ow_assign Z Z (lw_nil (ew_then (cw_seq (cw_seq (cw_region (lw_op Z Z Z (ow_move Z Z (lw_op Z Z Z (ow_loadOwnA Z Z Z ho8 (Tryd.isAgg27 _) (Tryd.sizeOf27 _) Z ?_))))))))))
  have hw5 : VRep RBox w6 (Add g2 (Add g1 M)) ({ Sides := x1.1.Sides } : Box) (.agg #[(.slice A1 x1.1.Sides.length c1)]) := shut_Box (VRep.mono (hz1.trans hl6) hw1)
  refine lw_op Z Z Z (ow_loadOwnA Z Z Z ho9 (Tryd.isAgg27 _) (Tryd.sizeOf27 _) Z ?_)
  have hw6 : VRep RBox w6 (Add g2 (Add g1 M)) ({ Sides := x1.2.Sides } : Box) (.agg #[(.slice A2 x1.2.Sides.length c2)]) := shut_Box (VRep.mono (hz1.trans hl6) hw2)
  replace h := bind_some h
  obtain ⟨x3, hx3, h⟩ := h
  refine lw_op Z Z Z (ow_call Z Z Tryd.call47 (w_spec_BoxSame (hG.mono (hz2.trans hl6)) hC6.old hw5 hw6 hx3) fun v5 w7 hv5 => ?_)
  obtain ⟨hv5, hb7⟩ := hv5
  have hl7 := Le.no (Add g2 (Add g1 M)) hb7
  have hC7 := hC6.no hb7
  have ho10 := ho8.no hb7
  have ho11 := ho9.no hb7
  obtain rfl := vbool_eq hv5
  refine lw_op Z Z Z (ow_neqB Z Z Z Tryd.underlying4 fun bb2 hbb2 => lw_op Z Z Z (ow_move Z Z ?_))
  replace h := cond_some h
  rcases h with ⟨hc2, h⟩ | ⟨hc2, h⟩
  ·
   obtain rfl := hbb2.trans hc2
   refine lw_off Z Z Z Z Z Z (lw_off Z Z Z Z Z Z (lw_off Z Z Z Z Z Z (lw_off Z Z Z Z Z Z (lw_off Z Z Z Z Z Z (lw_op Z Z Z (ow_pickT Z Z Z (lw_nil (ew_then (cw_true Z (cw_seq (cw_region (lw_op Z Z Z (ow_assign Z Z (lw_nil (ew_then (cw_ret (ew_thenR ?_)))))))))))))))))
   obtain rfl := Option.some.inj h
   exact ew_ret (res1 Z (.tmp Z)) ⟨_, Z, ((vbool _)), hC7.bx⟩
  ·
   obtain rfl := hbb2.trans hc2
   refine lw_on Z Z Z Z Z Z (ow_move Z Z (lw_on Z Z Z Z Z Z (ow_loadOwnA Z Z Z ho11 (Tryd.isAgg27 _) (Tryd.sizeOf27 _) Z ?_)))
   have hz3 := ((hz1.trans hl6).trans hl7)
   have hw7 : VRep RBox w7 (Add g2 (Add g1 M)) ({ Sides := x1.2.Sides } : Box) (.agg #[(.slice A2 x1.2.Sides.length c2)]) := shut_Box (VRep.mono hz3 hw2)
   refine lw_on Z Z Z Z Z Z (ow_loadOwnA Z Z Z ho10 (Tryd.isAgg27 _) (Tryd.sizeOf27 _) Z ?_)
   have hw8 : VRep RBox w7 (Add g2 (Add g1 M)) ({ Sides := x1.1.Sides } : Box) (.agg #[(.slice A1 x1.1.Sides.length c1)]) := shut_Box (VRep.mono hz3 hw1)
   replace h := bind_some h
   obtain ⟨x4, hx4, h⟩ := h
   have hz4 := ((hz2.trans hl6).trans hl7)
   refine lw_on Z Z Z Z Z Z (ow_call Z Z Tryd.call46 (w_impl_BoxSame (hG.mono hz4) hC7.old hw7 hw8 hx4) fun v6 w8 hv6 => ?_)
   obtain ⟨hv6, hb8⟩ := hv6
   have hl8 := Le.no (Add g2 (Add g1 M)) hb8
   have hC8 := hC7.no hb8
   have ho12 := ho10.no hb8
   have ho13 := ho11.no hb8
   obtain rfl := vbool_eq hv6
   refine lw_on Z Z Z Z Z Z (ow_neqB Z Z Z Tryd.underlying4 fun bb3 hbb3 => lw_op Z Z Z (ow_pickF Z Z Z (lw_nil (ew_then ?_))))
   replace h := cond_some h
   rcases h with ⟨hc3, h⟩ | ⟨hc3, h⟩
   ·
    obtain rfl := hbb3.trans hc3
    refine cw_true Z (cw_seq (cw_region (lw_op Z Z Z (ow_assign Z Z (lw_nil (ew_then (cw_ret (ew_thenR ?_))))))))
    obtain rfl := Option.some.inj h
    exact ew_ret (res1 Z (.tmp Z)) ⟨_, Z, ((vbool _)), hC8.bx⟩
   ·
    obtain rfl := hbb3.trans hc3
    refine cw_false Z (cw_skip (ew_then (cw_seq (cw_seq (cw_region (lw_op Z Z Z (ow_loadOwnA Z Z Z ho12 (Tryd.isAgg27 _) (Tryd.sizeOf27 _) Z ?_)))))))
    have hw9 : VRep RBox w8 (Add g2 (Add g1 M)) ({ Sides := x1.1.Sides } : Box) (.agg #[(.slice A1 x1.1.Sides.length c1)]) := shut_Box (VRep.mono (hz3.trans hl8) hw1)
    replace h := bind_some h
    obtain ⟨x5, hx5, h⟩ := h
    refine lw_op Z Z Z (ow_call Z Z Tryd.call38 (w_spec_BoxValid (hG.mono (hz4.trans hl8)) hC8.old hw9 hx5) fun v7 w9 hv7 => ?_)
    obtain ⟨hv7, hb9⟩ := hv7
    have hl9 := Le.no (Add g2 (Add g1 M)) hb9
    have hC9 := hC8.no hb9
    have ho14 := ho12.no hb9
    have ho15 := ho13.no hb9
    obtain rfl := vbool_eq hv7
    refine lw_op Z Z Z (ow_not Z Z (lw_op Z Z Z (ow_move Z Z ?_)))
    replace h := cond_some h
    rcases h with ⟨hc4, h⟩ | ⟨hc4, h⟩
    ·
     subst hc4
     refine lw_on Z Z Z Z Z Z (ow_loadOwnA Z Z Z ho15 (Tryd.isAgg27 _) (Tryd.sizeOf27 _) Z ?_)
     have hz5 := ((hz3.trans hl8).trans hl9)
     have hw10 : VRep RBox w9 (Add g2 (Add g1 M)) ({ Sides := x1.2.Sides } : Box) (.agg #[(.slice A2 x1.2.Sides.length c2)]) := shut_Box (VRep.mono hz5 hw2)
     replace h := bind_some h
     obtain ⟨x6, hx6, h⟩ := h
     have hz6 := ((hz4.trans hl8).trans hl9)
     refine lw_on Z Z Z Z Z Z (ow_call Z Z Tryd.call38 (w_spec_BoxValid (hG.mono hz6) hC9.old hw10 hx6) fun v8 w10 hv8 => ?_)
     obtain ⟨hv8, hb10⟩ := hv8
     have hl10 := Le.no (Add g2 (Add g1 M)) hb10
     have hC10 := hC9.no hb10
     have ho16 := ho14.no hb10
     have ho17 := ho15.no hb10
     obtain rfl := vbool_eq hv8
     refine lw_on Z Z Z Z Z Z (ow_not Z Z (lw_op Z Z Z (ow_pickF Z Z Z (lw_nil (ew_then ?_)))))
     replace h := cond_some h
     rcases h with ⟨hc5, h⟩ | ⟨hc5, h⟩
     ·
      subst hc5
      refine cw_false Z (cw_skip (ew_then (cw_seq (cw_region (lw_op Z Z Z (ow_loadOwnA Z Z Z ho16 (Tryd.isAgg27 _) (Tryd.sizeOf27 _) Z ?_))))))
      have hw11 : VRep RBox w10 (Add g2 (Add g1 M)) ({ Sides := x1.1.Sides } : Box) (.agg #[(.slice A1 x1.1.Sides.length c1)]) := shut_Box (VRep.mono (hz5.trans hl10) hw1)
      replace h := bind_some h
      obtain ⟨x7, hx7, h⟩ := h
      refine lw_op Z Z Z (ow_call Z Z Tryd.call48 (w_impl_BoxEmpty (hG.mono (hz6.trans hl10)) hC10.old hw11 hx7) fun v9 w11 hv9 => ?_)
      obtain ⟨hv9, hb11⟩ := hv9
      have hl11 := Le.no (Add g2 (Add g1 M)) hb11
      have hC11 := hC10.no hb11
      have ho18 := ho16.no hb11
      have ho19 := ho17.no hb11
      obtain rfl := vbool_eq hv9
      refine lw_op Z Z Z (ow_move Z Z ?_)
      replace h := cond_some h
      rcases h with ⟨hc6, h⟩ | ⟨hc6, h⟩
      ·
       subst hc6
       refine lw_on Z Z Z Z Z Z (ow_loadOwnA Z Z Z ho19 (Tryd.isAgg27 _) (Tryd.sizeOf27 _) Z ?_)
       have hz7 := ((hz5.trans hl10).trans hl11)
       have hw12 : VRep RBox w11 (Add g2 (Add g1 M)) ({ Sides := x1.2.Sides } : Box) (.agg #[(.slice A2 x1.2.Sides.length c2)]) := shut_Box (VRep.mono hz7 hw2)
       replace h := bind_some h
       obtain ⟨x8, hx8, h⟩ := h
       have hz8 := ((hz6.trans hl10).trans hl11)
       refine lw_on Z Z Z Z Z Z (ow_call Z Z Tryd.call48 (w_impl_BoxEmpty (hG.mono hz8) hC11.old hw12 hx8) fun v10 w12 hv10 => ?_)
       obtain ⟨hv10, hb12⟩ := hv10
       have hl12 := Le.no (Add g2 (Add g1 M)) hb12
       have hC12 := hC11.no hb12
       have ho20 := ho18.no hb12
       have ho21 := ho19.no hb12
       obtain rfl := vbool_eq hv10
       refine lw_op Z Z Z (ow_pickT Z Z Z (lw_op Z Z Z (ow_move Z Z ?_)))
       replace h := cond_some h
       rcases h with ⟨hc7, h⟩ | ⟨hc7, h⟩
       ·
        subst hc7
        refine lw_off Z Z Z Z Z Z (lw_off Z Z Z Z Z Z (lw_off Z Z Z Z Z Z (lw_op Z Z Z (ow_pickT Z Z Z (lw_op Z Z Z (ow_move Z Z (lw_op Z Z Z (ow_eqlB Z Z Z Tryd.underlying4 fun bb4 hbb4 => lw_op Z Z Z (ow_move Z Z ?_)))))))))
        replace h := cond_some h
        rcases h with ⟨hc8, h⟩ | ⟨hc8, h⟩
        ·
         obtain rfl := hbb4.trans hc8
         refine lw_on Z Z Z Z Z Z (ow_loadOwnA Z Z Z ho20 (Tryd.isAgg27 _) (Tryd.sizeOf27 _) Z ?_)
         have hw13 : VRep RBox w12 (Add g2 (Add g1 M)) ({ Sides := x1.1.Sides } : Box) (.agg #[(.slice A1 x1.1.Sides.length c1)]) := shut_Box (VRep.mono (hz7.trans hl12) hw1)
         refine lw_on Z Z Z Z Z Z (ow_loadOwnA Z Z Z ho20 (Tryd.isAgg27 _) (Tryd.sizeOf27 _) Z ?_)
         have hw14 : VRep RBox w12 (Add g2 (Add g1 M)) ({ Sides := x1.1.Sides } : Box) (.agg #[(.slice A1 x1.1.Sides.length c1)]) := shut_Box (VRep.mono (hz7.trans hl12) hw1)
         replace h := bind_some h
         obtain ⟨x9, hx9, h⟩ := h
         refine lw_on Z Z Z Z Z Z (ow_call Z Z Tryd.call46 (w_impl_BoxSame (hG.mono (hz8.trans hl12)) hC12.old hw13 hw14 hx9) fun v11 w13 hv11 => ?_)
         obtain ⟨hv11, hb13⟩ := hv11
         have hC13 := hC12.no hb13
         obtain rfl := vbool_eq hv11
         refine lw_op Z Z Z (ow_pickT Z Z Z (lw_op Z Z Z (ow_assign Z Z (lw_nil (ew_then (cw_ret ?_))))))
         obtain rfl := Option.some.inj h
         exact ew_ret (res1 Z (.tmp Z)) ⟨_, Z, ((vbool _)), hC13.bx⟩
        ·
         obtain rfl := hbb4.trans hc8
         refine lw_off Z Z Z Z Z Z (lw_off Z Z Z Z Z Z (lw_off Z Z Z Z Z Z (lw_op Z Z Z (ow_pickF Z Z Z (lw_op Z Z Z (ow_assign Z Z (lw_nil (ew_then (cw_ret ?_)))))))))
         obtain rfl := Option.some.inj h
         exact ew_ret (res1 Z (.tmp Z)) ⟨_, Z, ((vbool _)), hC12.bx⟩
       ·
        subst hc7
        refine lw_on Z Z Z Z Z Z (ow_loadOwnA Z Z Z ho20 (Tryd.isAgg27 _) (Tryd.sizeOf27 _) Z ?_)
        have hw15 : VRep RBox w12 (Add g2 (Add g1 M)) ({ Sides := x1.1.Sides } : Box) (.agg #[(.slice A1 x1.1.Sides.length c1)]) := shut_Box (VRep.mono (hz7.trans hl12) hw1)
        refine lw_on Z Z Z Z Z Z (ow_loadOwnA Z Z Z ho21 (Tryd.isAgg27 _) (Tryd.sizeOf27 _) Z ?_)
        have hw16 : VRep RBox w12 (Add g2 (Add g1 M)) ({ Sides := x1.2.Sides } : Box) (.agg #[(.slice A2 x1.2.Sides.length c2)]) := shut_Box (VRep.mono (hz7.trans hl12) hw2)
        replace h := bind_some h
        obtain ⟨x10, hx10, h⟩ := h
        refine lw_on Z Z Z Z Z Z (ow_call Z Z Tryd.call17 (w_laws_sameBox (hG.mono (hz8.trans hl12)) hC12.old hw15 hw16 hx10) fun v12 w14 hv12 => ?_)
        obtain ⟨hv12, hb14⟩ := hv12
        have hl14 := Le.no (Add g2 (Add g1 M)) hb14
        have hC14 := hC12.no hb14
        have ho24 := ho20.no hb14
        obtain rfl := vbool_eq hv12
        refine lw_op Z Z Z (ow_pickF Z Z Z (lw_op Z Z Z (ow_move Z Z (lw_op Z Z Z (ow_eqlB Z Z Z Tryd.underlying4 fun bb5 hbb5 => lw_op Z Z Z (ow_move Z Z ?_))))))
        replace h := cond_some h
        rcases h with ⟨hc9, h⟩ | ⟨hc9, h⟩
        ·
         obtain rfl := hbb5.trans hc9
         refine lw_on Z Z Z Z Z Z (ow_loadOwnA Z Z Z ho24 (Tryd.isAgg27 _) (Tryd.sizeOf27 _) Z ?_)
         have hz9 := ((hz7.trans hl12).trans hl14)
         have hw17 : VRep RBox w14 (Add g2 (Add g1 M)) ({ Sides := x1.1.Sides } : Box) (.agg #[(.slice A1 x1.1.Sides.length c1)]) := shut_Box (VRep.mono hz9 hw1)
         refine lw_on Z Z Z Z Z Z (ow_loadOwnA Z Z Z ho24 (Tryd.isAgg27 _) (Tryd.sizeOf27 _) Z ?_)
         have hw18 : VRep RBox w14 (Add g2 (Add g1 M)) ({ Sides := x1.1.Sides } : Box) (.agg #[(.slice A1 x1.1.Sides.length c1)]) := shut_Box (VRep.mono hz9 hw1)
         replace h := bind_some h
         obtain ⟨x11, hx11, h⟩ := h
         have hz10 := ((hz8.trans hl12).trans hl14)
         refine lw_on Z Z Z Z Z Z (ow_call Z Z Tryd.call46 (w_impl_BoxSame (hG.mono hz10) hC14.old hw17 hw18 hx11) fun v13 w15 hv13 => ?_)
         obtain ⟨hv13, hb15⟩ := hv13
         have hC15 := hC14.no hb15
         obtain rfl := vbool_eq hv13
         refine lw_op Z Z Z (ow_pickT Z Z Z (lw_op Z Z Z (ow_assign Z Z (lw_nil (ew_then (cw_ret ?_))))))
         obtain rfl := Option.some.inj h
         exact ew_ret (res1 Z (.tmp Z)) ⟨_, Z, ((vbool _)), hC15.bx⟩
        ·
         obtain rfl := hbb5.trans hc9
         refine lw_off Z Z Z Z Z Z (lw_off Z Z Z Z Z Z (lw_off Z Z Z Z Z Z (lw_op Z Z Z (ow_pickF Z Z Z (lw_op Z Z Z (ow_assign Z Z (lw_nil (ew_then (cw_ret ?_)))))))))
         obtain rfl := Option.some.inj h
         exact ew_ret (res1 Z (.tmp Z)) ⟨_, Z, ((vbool _)), hC14.bx⟩
      ·
       subst hc6
       refine lw_off Z Z Z Z Z Z (lw_off Z Z Z Z Z Z (lw_op Z Z Z (ow_pickF Z Z Z (lw_op Z Z Z (ow_move Z Z (lw_on Z Z Z Z Z Z (ow_loadOwnA Z Z Z ho18 (Tryd.isAgg27 _) (Tryd.sizeOf27 _) Z ?_)))))))
       have hz11 := ((hz5.trans hl10).trans hl11)
       have hw19 : VRep RBox w11 (Add g2 (Add g1 M)) ({ Sides := x1.1.Sides } : Box) (.agg #[(.slice A1 x1.1.Sides.length c1)]) := shut_Box (VRep.mono hz11 hw1)
       refine lw_on Z Z Z Z Z Z (ow_loadOwnA Z Z Z ho19 (Tryd.isAgg27 _) (Tryd.sizeOf27 _) Z ?_)
       have hw20 : VRep RBox w11 (Add g2 (Add g1 M)) ({ Sides := x1.2.Sides } : Box) (.agg #[(.slice A2 x1.2.Sides.length c2)]) := shut_Box (VRep.mono hz11 hw2)
       replace h := bind_some h
       obtain ⟨x12, hx12, h⟩ := h
       have hz12 := ((hz6.trans hl10).trans hl11)
       refine lw_on Z Z Z Z Z Z (ow_call Z Z Tryd.call17 (w_laws_sameBox (hG.mono hz12) hC11.old hw19 hw20 hx12) fun v14 w16 hv14 => ?_)
       obtain ⟨hv14, hb16⟩ := hv14
       have hl16 := Le.no (Add g2 (Add g1 M)) hb16
       have hC16 := hC11.no hb16
       have ho28 := ho18.no hb16
       obtain rfl := vbool_eq hv14
       refine lw_op Z Z Z (ow_pickF Z Z Z (lw_op Z Z Z (ow_move Z Z (lw_op Z Z Z (ow_eqlB Z Z Z Tryd.underlying4 fun bb6 hbb6 => lw_op Z Z Z (ow_move Z Z ?_))))))
       replace h := cond_some h
       rcases h with ⟨hc10, h⟩ | ⟨hc10, h⟩
       ·
        obtain rfl := hbb6.trans hc10
        refine lw_on Z Z Z Z Z Z (ow_loadOwnA Z Z Z ho28 (Tryd.isAgg27 _) (Tryd.sizeOf27 _) Z ?_)
        have hw21 : VRep RBox w16 (Add g2 (Add g1 M)) ({ Sides := x1.1.Sides } : Box) (.agg #[(.slice A1 x1.1.Sides.length c1)]) := shut_Box (VRep.mono (hz11.trans hl16) hw1)
        refine lw_on Z Z Z Z Z Z (ow_loadOwnA Z Z Z ho28 (Tryd.isAgg27 _) (Tryd.sizeOf27 _) Z ?_)
        have hw22 : VRep RBox w16 (Add g2 (Add g1 M)) ({ Sides := x1.1.Sides } : Box) (.agg #[(.slice A1 x1.1.Sides.length c1)]) := shut_Box (VRep.mono (hz11.trans hl16) hw1)
        replace h := bind_some h
        obtain ⟨x13, hx13, h⟩ := h
        refine lw_on Z Z Z Z Z Z (ow_call Z Z Tryd.call46 (w_impl_BoxSame (hG.mono (hz12.trans hl16)) hC16.old hw21 hw22 hx13) fun v15 w17 hv15 => ?_)
        obtain ⟨hv15, hb17⟩ := hv15
        have hC17 := hC16.no hb17
        obtain rfl := vbool_eq hv15
        refine lw_op Z Z Z (ow_pickT Z Z Z (lw_op Z Z Z (ow_assign Z Z (lw_nil (ew_then (cw_ret ?_))))))
        obtain rfl := Option.some.inj h
        exact ew_ret (res1 Z (.tmp Z)) ⟨_, Z, ((vbool _)), hC17.bx⟩
       ·
        obtain rfl := hbb6.trans hc10
        refine lw_off Z Z Z Z Z Z (lw_off Z Z Z Z Z Z (lw_off Z Z Z Z Z Z (lw_op Z Z Z (ow_pickF Z Z Z (lw_op Z Z Z (ow_assign Z Z (lw_nil (ew_then (cw_ret ?_)))))))))
        obtain rfl := Option.some.inj h
        exact ew_ret (res1 Z (.tmp Z)) ⟨_, Z, ((vbool _)), hC16.bx⟩
     ·
      subst hc5
      refine cw_true Z (cw_seq (cw_region (lw_op Z Z Z (ow_move Z Z (lw_op Z Z Z (ow_not Z Z (lw_op Z Z Z (ow_move Z Z ?_))))))))
      replace h := cond_some h
      rcases h with ⟨hc11, h⟩ | ⟨hc11, h⟩
      ·
       subst hc11
       refine lw_off Z Z Z Z Z Z (lw_op Z Z Z (ow_pickF Z Z Z (lw_op Z Z Z (ow_assign Z Z (lw_nil (ew_then (cw_ret (ew_thenR ?_))))))))
       obtain rfl := Option.some.inj h
       exact ew_ret (res1 Z (.tmp Z)) ⟨_, Z, ((vbool _)), hC10.bx⟩
      ·
       subst hc11
       replace h := bind_some h
       obtain ⟨x14, hx14, h⟩ := h
       refine lw_on Z Z Z Z Z Z (ow_call Z Z Tryd.call19 (w_laws_alive (hG.mono (hz6.trans hl10)) hC10.old hx14) fun v16 w18 hv16 => ?_)
       obtain ⟨hv16, hb18⟩ := hv16
       have hC18 := hC10.no hb18
       obtain rfl := vbool_eq hv16
       refine lw_op Z Z Z (ow_pickT Z Z Z (lw_op Z Z Z (ow_assign Z Z (lw_nil (ew_then (cw_ret (ew_thenR ?_)))))))
       obtain rfl := Option.some.inj h
       exact ew_ret (res1 Z (.tmp Z)) ⟨_, Z, ((vbool _)), hC18.bx⟩
    ·
     subst hc4
     refine lw_off Z Z Z Z Z Z (lw_off Z Z Z Z Z Z (lw_off Z Z Z Z Z Z (lw_op Z Z Z (ow_pickT Z Z Z (lw_nil (ew_then (cw_true Z (cw_seq (cw_region (lw_op Z Z Z (ow_move Z Z (lw_op Z Z Z (ow_not Z Z (lw_op Z Z Z (ow_move Z Z ?_)))))))))))))))
     replace h := cond_some h
     rcases h with ⟨hc12, h⟩ | ⟨hc12, h⟩
     ·
      subst hc12
      refine lw_off Z Z Z Z Z Z (lw_op Z Z Z (ow_pickF Z Z Z (lw_op Z Z Z (ow_assign Z Z (lw_nil (ew_then (cw_ret (ew_thenR ?_))))))))
      obtain rfl := Option.some.inj h
      exact ew_ret (res1 Z (.tmp Z)) ⟨_, Z, ((vbool _)), hC9.bx⟩
     ·
      subst hc12
      replace h := bind_some h
      obtain ⟨x15, hx15, h⟩ := h
      have hz13 := ((hz4.trans hl8).trans hl9)
      refine lw_on Z Z Z Z Z Z (ow_call Z Z Tryd.call19 (w_laws_alive (hG.mono hz13) hC9.old hx15) fun v17 w19 hv17 => ?_)
      obtain ⟨hv17, hb19⟩ := hv17
      have hC19 := hC9.no hb19
      obtain rfl := vbool_eq hv17
      refine lw_op Z Z Z (ow_pickT Z Z Z (lw_op Z Z Z (ow_assign Z Z (lw_nil (ew_then (cw_ret (ew_thenR ?_)))))))
      obtain rfl := Option.some.inj h
      exact ew_ret (res1 Z (.tmp Z)) ⟨_, Z, ((vbool _)), hC19.bx⟩


end Go.PF
