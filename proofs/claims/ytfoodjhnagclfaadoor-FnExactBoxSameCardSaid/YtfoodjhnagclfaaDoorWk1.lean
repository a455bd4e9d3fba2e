/- The walks; no condition. -/
import Derived.Test.YtfoodjhnagclfaaDoorProg
import Derived.Test.YtfoodjhnagclfaaDoorWk0
import Derived.Test.YtfoodjhnagclfaaDoorPFChain
set_option maxRecDepth 100000
set_option maxHeartbeats 4000000
namespace Go.PF
open Go Go.RowKit Go.Proofs

theorem w_spec_l11Cut {w : World} {M : Nat → Prop} (hG : ARep (RArr 4 RShape) w M shapes ⟨0, 0, none⟩) (hO : ∀ b, M b → b < w.heap.size) {v0p : Value} {a_a : Box} (h0 : VRep RBox w M a_a v0p) {v1p : Value} {a_b : Box} (h1 : VRep RBox w M a_b v1p) {r : (List Box)} (h : F.spec_l11Cut a_a a_b = some r) :
    Calls Tryd.prog 72 [v0p, v1p].toArray w fun e w' => ∃ v, e = .returned v ∧ VRep (RSlice RBox) w' M r v ∧ BX No w w' := by
  obtain ⟨i29, hi29, hz29, hs29, hy29⟩ := info29
  have hC : Cx No w M w M := Cx.start hO (fun _ e => e.elim)
  refine walk (N := 82) Tryd.func72 rfl Tryd.ntmps72 rfl ?_
  refine cw_seq ?_
  refine cw_region ?_
  refine lw_op rfl rfl rfl (ow_box (R := RBox) rfl rfl h0 hC fun p1 w1 hp1 hb1 hl1 hC1 => ?_)
  refine lw_op rfl rfl rfl (ow_box (R := RBox) rfl rfl (VRep.mono hl1 h1) hC1 fun p2 w2 hp2 hb2 hl2 hC2 => ?_)
  refine lw_op rfl rfl rfl (ow_assign rfl rfl ?_)
  refine lw_nil ?_
  refine ew_then ?_
  refine cw_seq ?_
  refine cw_region ?_
  refine lw_op rfl rfl rfl (ow_buildSlice0 (R := RBox) (e := 29) rfl (by kernel_rfl) hC2 fun p3 w3 M1 hr1 hb3 hl3 hC3 hM1 hat1 => ?_)
  refine lw_op rfl rfl rfl (ow_assign rfl rfl ?_)
  refine lw_nil ?_
  refine ew_then ?_
  refine cw_seq ?_
  refine cw_seq ?_
  refine cw_region ?_
  refine lw_op rfl rfl rfl (ow_load (R := RBox) rfl rfl (ARep.mono (hl2.trans hl3) hp1) (Tryd.sizeOf29 _) (Tryd.isAgg29 _) fun v1 hv1 => ?_)
  refine lw_op rfl rfl rfl (ow_load (R := RBox) rfl rfl (ARep.mono hl3 hp2) (Tryd.sizeOf29 _) (Tryd.isAgg29 _) fun v2 hv2 => ?_)
  replace h := bind_some h
  obtain ⟨x1, hx1, h⟩ := h
  refine lw_op rfl rfl rfl (ow_call rfl rfl Tryd.call121 (w_spec_l10Meet (hG.mono ((hl1.trans hl2).trans hl3)) hC3.old hv1 hv2 hx1) fun v3 w4 hv3 => ?_)
  obtain ⟨hv3, hb4⟩ := hv3
  have hl4 := Le.no M1 hb4
  have hC4 := hC3.no hb4
  have hr2 := hr1.no hb4
  replace h := bind_some h
  obtain ⟨x2, hx2, h⟩ := h
  refine lw_op rfl rfl rfl (ow_call rfl rfl Tryd.call120 (w_spec_l10Empty (hG.mono (((hl1.trans hl2).trans hl3).trans hl4)) hC4.old hv3 hx2) fun v4 w5 hv4 => ?_)
  obtain ⟨hv4, hb5⟩ := hv4
  have hl5 := Le.no M1 hb5
  have hC5 := hC4.no hb5
  have hr3 := hr2.no hb5
  obtain rfl := vbool_eq hv4
  refine lw_nil ?_
  refine ew_then ?_
  replace h := cond_some h
  rcases h with ⟨hc1, h⟩ | ⟨hc1, h⟩
  · subst hc1
    refine cw_true rfl ?_
    refine cw_seq ?_
    refine cw_seq ?_
    refine cw_region ?_
    refine lw_op rfl rfl rfl (ow_load (R := RBox) rfl rfl (ARep.mono (((hl2.trans hl3).trans hl4).trans hl5) hp1) (Tryd.sizeOf29 _) (Tryd.isAgg29 _) fun v5 hv5 => ?_)
    replace h := bind_some h
    obtain ⟨x3, hx3, h⟩ := h
    refine lw_op rfl rfl rfl (ow_call rfl rfl Tryd.call120 (w_spec_l10Empty (hG.mono ((((hl1.trans hl2).trans hl3).trans hl4).trans hl5)) hC5.old hv5 hx3) fun v6 w6 hv6 => ?_)
    obtain ⟨hv6, hb6⟩ := hv6
    have hl6 := Le.no M1 hb6
    have hC6 := hC5.no hb6
    have hr4 := hr3.no hb6
    obtain rfl := vbool_eq hv6
    refine lw_op rfl rfl rfl (ow_not rfl rfl ?_)
    refine lw_nil ?_
    refine ew_then ?_
    replace h := cond_some h
    rcases h with ⟨hc2, h⟩ | ⟨hc2, h⟩
    · subst hc2
      refine cw_false rfl ?_
      refine cw_skip ?_
      refine ew_then ?_
      refine cw_seq ?_
      refine cw_region ?_
      refine lw_op rfl rfl rfl (ow_move rfl rfl ?_)
      refine lw_op rfl rfl rfl (ow_assign rfl rfl ?_)
      refine lw_nil ?_
      refine ew_then ?_
      refine cw_ret ?_
      refine ew_thenR ?_
      obtain rfl := Option.some.inj h
      exact ew_ret (res1 rfl (.tmp rfl)) ⟨_, rfl, (hr4.freezeBack hC6 hO), hC6.bx⟩
    · subst hc2
      refine cw_true rfl ?_
      refine cw_region ?_
      refine lw_op rfl rfl rfl (ow_move rfl rfl ?_)
      refine lw_op rfl rfl rfl (ow_load (R := RBox) rfl rfl (ARep.mono ((((hl2.trans hl3).trans hl4).trans hl5).trans hl6) hp1) (Tryd.sizeOf29 _) (Tryd.isAgg29 _) fun v7 hv7 => ?_)
      obtain ⟨A1, c1, rfl, hw1⟩ := open_Box hv7
      refine lw_op rfl rfl rfl (ow_buildSlice (R := RBox) (xs := [a_a]) (cs := #[(.slice A1 a_a.Sides.length c1)]) (e := 29) rfl rfl (by kernel_rfl) rfl rfl ⟨_, _, rfl, hv7.cells, rfl⟩ hC6 fun p4 w7 hw2 hb7 hl7 hC7 => ?_)
      have hr5 := hr4.no hb7
      replace h := bind_some h
      obtain ⟨z1, hz1, h⟩ := h
      refine lw_op rfl rfl rfl (ow_append (R := RBox) rfl rfl rfl rfl Tryd.underlying37 hi29 hz29 hs29 hy29 rfl rfl rfl rfl hr5 hw2 hz1 hC7 fun v8 w8 M2 hr6 hb8 hl8 hC8 hM2 hat2 => ?_)
      refine lw_op rfl rfl rfl (ow_assign rfl rfl ?_)
      refine lw_nil ?_
      refine ew_then ?_
      refine cw_seq ?_
      refine cw_region ?_
      refine lw_op rfl rfl rfl (ow_move rfl rfl ?_)
      refine lw_op rfl rfl rfl (ow_assign rfl rfl ?_)
      refine lw_nil ?_
      refine ew_then ?_
      refine cw_ret ?_
      refine ew_thenR ?_
      obtain rfl := Option.some.inj h
      exact ew_ret (res1 rfl (.tmp rfl)) ⟨_, rfl, (hr6.freezeBack hC8 hO), hC8.bx⟩
  · subst hc1
    refine cw_false rfl ?_
    refine cw_skip ?_
    refine ew_then ?_
    refine cw_seq ?_
    refine cw_region ?_
    refine lw_op rfl rfl rfl (ow_load (R := RBox) rfl rfl (ARep.mono (((hl2.trans hl3).trans hl4).trans hl5) hp1) (Tryd.sizeOf29 _) (Tryd.isAgg29 _) fun v9 hv9 => ?_)
    refine lw_op rfl rfl rfl (ow_alloc rfl (Tryd.zeroValue29 _) hC5 fun g1 w9 hg1 hg2 ho1 hb9 hl9 hC9 => ?_)
    have hn1 := nb_fresh hr3 hg1
    have hr7 := hr3.add hb9 hg1
    have hm1 : (Add g1 M1) g1 := .inl rfl
    obtain ⟨A2, c2, rfl, hw3⟩ := open_Box hv9
    refine lw_op0 rfl rfl (ow_store (X := No) (us := [(.slice A2 a_a.Sides.length c2)]) (cs' := #[(.slice A2 a_a.Sides.length c2)]) rfl rfl rfl rfl ho1 (Tryd.sizeOf29 _) rfl rfl rfl rfl hm1 (.inl hg2) rfl hC9 fun w10 ho2 hb10 hl10 hC10 => ?_)
    have hr8 := hr7.go hb10 (fun k hk e => hn1 (hk.trans (congrArg some e))) hl10 (fun _ h => h)
    refine lw_nil ?_
    refine ew_then ?_
    refine cw_seq ?_
    refine cw_seq ?_
    refine cw_region ?_
    refine lw_op rfl rfl rfl (ow_assign rfl rfl ?_)
    refine lw_nil ?_
    refine ew_then ?_
    replace h := bind_some h
    obtain ⟨lr1, hlr1, h⟩ := h
    refine cw_for hlr1 (fun s a w' => ∃ (M' : Nat → Prop) (v0c : Value) (v2c : Value), Fits 82 [(3, (.pointer (some p2))), (5, v0c), (6, (.pointer (some ⟨g1, 0, none⟩))), (7, (.int .i64 s.2.1))] a ∧ Le w10 (Add g1 M1) w' M' ∧ Cx No w M w' M' ∧ OwnRow RBox w.heap.size 29 w' M' s.1 v0c ∧ VRep (RSlice (RSlice RSpan)) w' M' s.2.2 v2c ∧ Own w' g1 29 #[v2c] ∧ M' g1 ∧ (Value.ownBlock v0c) ≠ some g1) ?_ ?_ ?_
    · intro a ha
      exact ⟨(Add g1 M1), (.slice (some p3) 0 0), (.slice A2 a_a.Sides.length c2), ha.sub ⟨rfl, rfl, rfl, rfl, trivial⟩, Le.refl _ _, hC10, hr8, (VRep.mono (hl9.trans hl10) hw3), ho2, hm1, hn1⟩
    · rintro ⟨y1, k1, y2⟩ a w11 sr1 ⟨M3, v10, v12, hF1, hl11, hC11, hw4, hw5, ho3, hm2, hn2⟩ hb11 hR1
      refine cw_at (E := [(3, (.pointer (some p2))), (5, v10), (6, (.pointer (some ⟨g1, 0, none⟩))), (7, (.int .i64 k1))]) hF1 ?_
      refine cw_seq ?_
      refine cw_seq ?_
      refine cw_region ?_
      refine lw_op rfl rfl rfl (ow_move rfl rfl ?_)
      refine lw_op rfl rfl rfl (ow_lss rfl rfl rfl fun bb1 hbb1 => ?_)
      refine lw_nil ?_
      refine ew_then ?_
      replace hb11 := cond_some hb11
      rcases hb11 with ⟨hc3, hb11⟩ | ⟨hc3, hb11⟩
      · obtain rfl := hbb1.trans hc3
        refine cw_true rfl ?_
        refine cw_skip ?_
        refine ew_then ?_
        refine cw_seq ?_
        refine cw_block ?_
        refine cw_seq ?_
        replace hb11 := bind_some hb11
        obtain ⟨x4, hx4, hb11⟩ := hb11
        replace hb11 := bind_some hb11
        obtain ⟨x5, hx5, hb11⟩ := hb11
        replace hb11 := bind_some hb11
        obtain ⟨x6, hx6, hb11⟩ := hb11
        replace hb11 := bind_some hb11
        obtain ⟨x7, hx7, hb11⟩ := hb11
        refine cw_sub (E' := [(3, (.pointer (some p2))), (5, v10), (6, (.pointer (some ⟨g1, 0, none⟩))), (7, (.int .i64 k1))]) ⟨rfl, rfl, rfl, rfl, trivial⟩ ?_
        refine cw_drawQ 13 [PEq (.pointer (some ⟨g1, 0, none⟩)), PV (RSlice (RSlice RSpan)) M3 y2, PEq (.int .i64 k1), PA (RSlice RSpan) M3 x4, PV (RSlice RSpan) M3 x4, PA (RSlice (RSlice RSpan)) M3 a_b.Sides, PV (RSlice (RSlice RSpan)) M3 a_b.Sides, PEq (.int .i64 k1), PA (RSlice RSpan) M3 x5, PV (RSlice RSpan) M3 x5, PEq (.int .i64 k1), PEq (.int .i64 x6), PV (RSlice RSpan) M3 x7] (by kernel_rfl) rfl (by kernel_rfl) ⟨PEq.mono _, PV.mono _ _ _, PEq.mono _, PA.mono _ _ _, PV.mono _ _ _, PA.mono _ _ _, PV.mono _ _ _, PEq.mono _, PA.mono _ _ _, PV.mono _ _ _, PEq.mono _, PEq.mono _, PV.mono _ _ _, trivial⟩ ⟨?_, ?_, ?_, ?_, ?_, ?_, ?_, ?_, ?_, ?_, ?_, ?_, ?_, trivial⟩ ?_
        · intro w14 D hS1 hd1
          have hl14 := Le.no M3 hS1
          have hC14 := hC11.no hS1
          have ho6 := ho3.no hS1
          have hr11 := hw4.no hS1
          refine dg_sub (E' := [(6, (.pointer (some ⟨g1, 0, none⟩)))]) ⟨rfl, trivial⟩ ?_
          refine dg_plain rfl (ow_fieldAddr rfl rfl Tryd.underlying29 rfl (Tryd.sizeOf27 _) ?_)
          exact ⟨BX.refl _ _, rfl⟩
        · intro w15 D hS2 hd2
          have hl15 := Le.no M3 hS2
          have hC15 := hC11.no hS2
          have ho7 := ho3.no hS2
          have hr12 := hw4.no hS2
          have hd2 : PEq (.pointer (some ⟨g1, 0, none⟩)) (D 0) w15 ∧ True := hd2
          obtain ⟨d1, -⟩ := hd2
          refine dg_sub (E' := [(30, (.pointer (some ⟨g1, 0, none⟩)))]) ⟨(congrArg some d1), trivial⟩ ?_
          refine dg_plain rfl (ow_loadOwn1 rfl rfl rfl ho7 (Tryd.isAgg27 _) rfl ?_)
          exact ⟨BX.refl _ _, (VRep.mono hl15 hw5)⟩
        · intro w16 D hS3 hd3
          have hl16 := Le.no M3 hS3
          have hC16 := hC11.no hS3
          have ho8 := ho3.no hS3
          have hr13 := hw4.no hS3
          refine dg_sub (E' := [(7, (.int .i64 k1))]) ⟨rfl, trivial⟩ ?_
          refine dg_plain rfl (ow_move rfl rfl ?_)
          exact ⟨BX.refl _ _, rfl⟩
        · intro w17 D hS4 hd4
          have hl17 := Le.no M3 hS4
          have hC17 := hC11.no hS4
          have ho9 := ho3.no hS4
          have hr14 := hw4.no hS4
          have hd4 : PV (RSlice (RSlice RSpan)) M3 y2 (D 1) w17 ∧ PEq (.int .i64 k1) (D 2) w17 ∧ True := hd4
          obtain ⟨d2, d3, -⟩ := hd4
          obtain ⟨v18, hq1⟩ : ∃ v, (D 1) = v := ⟨_, rfl⟩
          rw [hq1] at d2
          refine dg_sub (E' := [(31, v18), (32, (.int .i64 k1))]) ⟨(congrArg some hq1), (congrArg some d3), trivial⟩ ?_
          refine dg_plain rfl (ow_indexSlice (R := (RSlice RSpan)) rfl rfl rfl d2 Tryd.underlying27 (Tryd.sizeOf93 _) hx4 fun p7 hp7 => ?_)
          exact ⟨BX.refl _ _, ⟨_, rfl, hp7⟩⟩
        · intro w18 D hS5 hd5
          have hl18 := Le.no M3 hS5
          have hC18 := hC11.no hS5
          have ho10 := ho3.no hS5
          have hr15 := hw4.no hS5
          have hd5 : PA (RSlice RSpan) M3 x4 (D 3) w18 ∧ True := hd5
          obtain ⟨d4, -⟩ := hd5
          obtain ⟨p8, e1, ha1⟩ := d4
          refine dg_sub (E' := [(33, (.pointer (some p8)))]) ⟨(congrArg some e1), trivial⟩ ?_
          refine dg_plain rfl (ow_load (R := (RSlice RSpan)) rfl rfl ha1 (Tryd.sizeOf93 _) (Tryd.isAgg93 _) fun v19 hv19 => ?_)
          exact ⟨BX.refl _ _, hv19⟩
        · intro w19 D hS6 hd6
          have hl19 := Le.no M3 hS6
          have hC19 := hC11.no hS6
          have ho11 := ho3.no hS6
          have hr16 := hw4.no hS6
          refine dg_sub (E' := [(3, (.pointer (some p2)))]) ⟨rfl, trivial⟩ ?_
          refine dg_plain rfl (ow_fieldAddr rfl rfl Tryd.underlying29 rfl (Tryd.sizeOf27 _) ?_)
          exact ⟨BX.refl _ _, ⟨_, rfl, (ARep.mono ((((((hl3.trans hl4).trans hl5).trans hl9).trans hl10).trans hl11).trans hl19) (hp2.fld fld_Box_Sides))⟩⟩
        · intro w20 D hS7 hd7
          have hl20 := Le.no M3 hS7
          have hC20 := hC11.no hS7
          have ho12 := ho3.no hS7
          have hr17 := hw4.no hS7
          have hd7 : PA (RSlice (RSlice RSpan)) M3 a_b.Sides (D 5) w20 ∧ True := hd7
          obtain ⟨d5, -⟩ := hd7
          obtain ⟨p9, e2, ha2⟩ := d5
          refine dg_sub (E' := [(35, (.pointer (some p9)))]) ⟨(congrArg some e2), trivial⟩ ?_
          refine dg_plain rfl (ow_load (R := (RSlice (RSlice RSpan))) rfl rfl ha2 (Tryd.sizeOf27 _) (Tryd.isAgg27 _) fun v20 hv20 => ?_)
          exact ⟨BX.refl _ _, hv20⟩
        · intro w21 D hS8 hd8
          have hl21 := Le.no M3 hS8
          have hC21 := hC11.no hS8
          have ho13 := ho3.no hS8
          have hr18 := hw4.no hS8
          refine dg_sub (E' := [(7, (.int .i64 k1))]) ⟨rfl, trivial⟩ ?_
          refine dg_plain rfl (ow_move rfl rfl ?_)
          exact ⟨BX.refl _ _, rfl⟩
        · intro w22 D hS9 hd9
          have hl22 := Le.no M3 hS9
          have hC22 := hC11.no hS9
          have ho14 := ho3.no hS9
          have hr19 := hw4.no hS9
          have hd9 : PV (RSlice (RSlice RSpan)) M3 a_b.Sides (D 6) w22 ∧ PEq (.int .i64 k1) (D 7) w22 ∧ True := hd9
          obtain ⟨d6, d7, -⟩ := hd9
          obtain ⟨v21, hq2⟩ : ∃ v, (D 6) = v := ⟨_, rfl⟩
          rw [hq2] at d6
          refine dg_sub (E' := [(36, v21), (37, (.int .i64 k1))]) ⟨(congrArg some hq2), (congrArg some d7), trivial⟩ ?_
          refine dg_plain rfl (ow_indexSlice (R := (RSlice RSpan)) rfl rfl rfl d6 Tryd.underlying27 (Tryd.sizeOf93 _) hx5 fun p10 hp10 => ?_)
          exact ⟨BX.refl _ _, ⟨_, rfl, hp10⟩⟩
        · intro w23 D hS10 hd10
          have hl23 := Le.no M3 hS10
          have hC23 := hC11.no hS10
          have ho15 := ho3.no hS10
          have hr20 := hw4.no hS10
          have hd10 : PA (RSlice RSpan) M3 x5 (D 8) w23 ∧ True := hd10
          obtain ⟨d8, -⟩ := hd10
          obtain ⟨p11, e3, ha3⟩ := d8
          refine dg_sub (E' := [(38, (.pointer (some p11)))]) ⟨(congrArg some e3), trivial⟩ ?_
          refine dg_plain rfl (ow_load (R := (RSlice RSpan)) rfl rfl ha3 (Tryd.sizeOf93 _) (Tryd.isAgg93 _) fun v22 hv22 => ?_)
          exact ⟨BX.refl _ _, hv22⟩
        · intro w24 D hS11 hd11
          have hl24 := Le.no M3 hS11
          have hC24 := hC11.no hS11
          have ho16 := ho3.no hS11
          have hr21 := hw4.no hS11
          refine dg_sub (E' := [(7, (.int .i64 k1))]) ⟨rfl, trivial⟩ ?_
          refine dg_plain rfl (ow_move rfl rfl ?_)
          exact ⟨BX.refl _ _, rfl⟩
        · intro w25 D hS12 hd12
          have hl25 := Le.no M3 hS12
          have hC25 := hC11.no hS12
          have ho17 := ho3.no hS12
          have hr22 := hw4.no hS12
          have hd12 : PEq (.int .i64 k1) (D 10) w25 ∧ True := hd12
          obtain ⟨d9, -⟩ := hd12
          refine dg_sub (E' := [(40, (.int .i64 k1))]) ⟨(congrArg some d9), trivial⟩ ?_
          refine dg_plain rfl (ow_call rfl rfl Tryd.call109 (w_spec_FieldTop (hG.mono ((((((((hl1.trans hl2).trans hl3).trans hl4).trans hl5).trans hl9).trans hl10).trans hl11).trans hl25)) hC25.old hx6) fun v23 w26 hv23 => ?_)
          obtain ⟨hv23, hb14⟩ := hv23
          have hl26 := Le.no M3 hb14
          have hC26 := hC25.no hb14
          have ho18 := ho17.no hb14
          have hr23 := hr22.no hb14
          obtain rfl := vint_eq hv23
          exact ⟨hb14, rfl⟩
        · intro w27 D hS13 hd13
          have hl27 := Le.no M3 hS13
          have hC27 := hC11.no hS13
          have ho19 := ho3.no hS13
          have hr24 := hw4.no hS13
          have hd13 : PV (RSlice RSpan) M3 x5 (D 9) w27 ∧ PEq (.int .i64 x6) (D 11) w27 ∧ PEq (.int .i64 x6) (D 11) w27 ∧ True := hd13
          obtain ⟨d10, d11, d12, -⟩ := hd13
          obtain ⟨v24, hq3⟩ : ∃ v, (D 9) = v := ⟨_, rfl⟩
          rw [hq3] at d10
          refine dg_sub (E' := [(39, v24), (41, (.int .i64 x6))]) ⟨(congrArg some hq3), (congrArg some d11), trivial⟩ ?_
          refine dg_plain rfl (ow_call rfl rfl Tryd.call123 (w_spec_l2Other (hG.mono ((((((((hl1.trans hl2).trans hl3).trans hl4).trans hl5).trans hl9).trans hl10).trans hl11).trans hl27)) hC27.old d10 hx7) fun v25 w28 hv25 => ?_)
          obtain ⟨hv25, hb15⟩ := hv25
          have hl28 := Le.no M3 hb15
          have hC28 := hC27.no hb15
          have ho20 := ho19.no hb15
          have hr25 := hr24.no hb15
          exact ⟨hb15, hv25⟩
        · intro w29 D hS14 hd14
          have hl29 := Le.no M3 hS14
          have hC29 := hC11.no hS14
          have ho21 := ho3.no hS14
          have hr26 := hw4.no hS14
          have hd14 : PEq (.pointer (some ⟨g1, 0, none⟩)) (D 0) w29 ∧ PV (RSlice (RSlice RSpan)) M3 y2 (D 1) w29 ∧ PEq (.int .i64 k1) (D 2) w29 ∧ PA (RSlice RSpan) M3 x4 (D 3) w29 ∧ PV (RSlice RSpan) M3 x4 (D 4) w29 ∧ PA (RSlice (RSlice RSpan)) M3 a_b.Sides (D 5) w29 ∧ PV (RSlice (RSlice RSpan)) M3 a_b.Sides (D 6) w29 ∧ PEq (.int .i64 k1) (D 7) w29 ∧ PA (RSlice RSpan) M3 x5 (D 8) w29 ∧ PV (RSlice RSpan) M3 x5 (D 9) w29 ∧ PEq (.int .i64 k1) (D 10) w29 ∧ PEq (.int .i64 x6) (D 11) w29 ∧ PV (RSlice RSpan) M3 x7 (D 12) w29 ∧ True := hd14
          obtain ⟨-, -, -, -, d17, -, -, -, -, -, -, -, d25, -⟩ := hd14
          obtain ⟨v26, hq4⟩ : ∃ v, (D 4) = v := ⟨_, rfl⟩
          rw [hq4] at d17
          obtain ⟨v27, hq5⟩ : ∃ v, (D 12) = v := ⟨_, rfl⟩
          rw [hq5] at d25
          refine lw_sub (E' := [(34, v26), (42, v27), (3, (.pointer (some p2))), (5, v10), (6, (.pointer (some ⟨g1, 0, none⟩))), (7, (.int .i64 k1))]) ⟨(congrArg some hq4), (congrArg some hq5), rfl, rfl, rfl, rfl, trivial⟩ ?_
          replace hb11 := bind_some hb11
          obtain ⟨x8, hx8, hb11⟩ := hb11
          refine lw_op rfl rfl rfl (ow_call rfl rfl Tryd.call122 (w_spec_l2Meet (hG.mono ((((((((hl1.trans hl2).trans hl3).trans hl4).trans hl5).trans hl9).trans hl10).trans hl11).trans hl29)) hC29.old d17 d25 hx8) fun v28 w30 hv28 => ?_)
          obtain ⟨hv28, hb16⟩ := hv28
          have hl30 := Le.no M3 hb16
          have hC30 := hC29.no hb16
          have ho22 := ho21.no hb16
          have hr27 := hr26.no hb16
          refine lw_op rfl rfl rfl (ow_assign rfl rfl ?_)
          refine lw_nil ?_
          refine ew_then ?_
          refine cw_seq ?_
          refine cw_sub (E' := [(3, (.pointer (some p2))), (5, v10), (6, (.pointer (some ⟨g1, 0, none⟩))), (7, (.int .i64 k1)), (8, v28)]) ⟨rfl, rfl, rfl, rfl, rfl, trivial⟩ ?_
          refine cw_drawQ 10 [PEq (.pointer (some ⟨g1, 0, none⟩)), PV (RSlice (RSlice RSpan)) M3 y2, PEq (.int .i64 k1), PA (RSlice RSpan) M3 x4, PV (RSlice RSpan) M3 x4, PA (RSlice (RSlice RSpan)) M3 a_b.Sides, PV (RSlice (RSlice RSpan)) M3 a_b.Sides, PEq (.int .i64 k1), PA (RSlice RSpan) M3 x5, PV (RSlice RSpan) M3 x5] (by kernel_rfl) rfl (by kernel_rfl) ⟨PEq.mono _, PV.mono _ _ _, PEq.mono _, PA.mono _ _ _, PV.mono _ _ _, PA.mono _ _ _, PV.mono _ _ _, PEq.mono _, PA.mono _ _ _, PV.mono _ _ _, trivial⟩ ⟨?_, ?_, ?_, ?_, ?_, ?_, ?_, ?_, ?_, ?_, trivial⟩ ?_
          · intro w31 D hS15 hd15
            have hl31 := Le.no M3 hS15
            have hC31 := hC30.no hS15
            have ho23 := ho22.no hS15
            have hr28 := hr27.no hS15
            refine dg_sub (E' := [(6, (.pointer (some ⟨g1, 0, none⟩)))]) ⟨rfl, trivial⟩ ?_
            refine dg_plain rfl (ow_fieldAddr rfl rfl Tryd.underlying29 rfl (Tryd.sizeOf27 _) ?_)
            exact ⟨BX.refl _ _, rfl⟩
          · intro w32 D hS16 hd16
            have hl32 := Le.no M3 hS16
            have hC32 := hC30.no hS16
            have ho24 := ho22.no hS16
            have hr29 := hr27.no hS16
            have hd16 : PEq (.pointer (some ⟨g1, 0, none⟩)) (D 0) w32 ∧ True := hd16
            obtain ⟨d26, -⟩ := hd16
            refine dg_sub (E' := [(44, (.pointer (some ⟨g1, 0, none⟩)))]) ⟨(congrArg some d26), trivial⟩ ?_
            refine dg_plain rfl (ow_loadOwn1 rfl rfl rfl ho24 (Tryd.isAgg27 _) rfl ?_)
            exact ⟨BX.refl _ _, (VRep.mono ((hl29.trans hl30).trans hl32) hw5)⟩
          · intro w33 D hS17 hd17
            have hl33 := Le.no M3 hS17
            have hC33 := hC30.no hS17
            have ho25 := ho22.no hS17
            have hr30 := hr27.no hS17
            refine dg_sub (E' := [(7, (.int .i64 k1))]) ⟨rfl, trivial⟩ ?_
            refine dg_plain rfl (ow_move rfl rfl ?_)
            exact ⟨BX.refl _ _, rfl⟩
          · intro w34 D hS18 hd18
            have hl34 := Le.no M3 hS18
            have hC34 := hC30.no hS18
            have ho26 := ho22.no hS18
            have hr31 := hr27.no hS18
            have hd18 : PV (RSlice (RSlice RSpan)) M3 y2 (D 1) w34 ∧ PEq (.int .i64 k1) (D 2) w34 ∧ True := hd18
            obtain ⟨d27, d28, -⟩ := hd18
            obtain ⟨v32, hq6⟩ : ∃ v, (D 1) = v := ⟨_, rfl⟩
            rw [hq6] at d27
            refine dg_sub (E' := [(45, v32), (46, (.int .i64 k1))]) ⟨(congrArg some hq6), (congrArg some d28), trivial⟩ ?_
            refine dg_plain rfl (ow_indexSlice (R := (RSlice RSpan)) rfl rfl rfl d27 Tryd.underlying27 (Tryd.sizeOf93 _) hx4 fun p14 hp14 => ?_)
            exact ⟨BX.refl _ _, ⟨_, rfl, hp14⟩⟩
          · intro w35 D hS19 hd19
            have hl35 := Le.no M3 hS19
            have hC35 := hC30.no hS19
            have ho27 := ho22.no hS19
            have hr32 := hr27.no hS19
            have hd19 : PA (RSlice RSpan) M3 x4 (D 3) w35 ∧ True := hd19
            obtain ⟨d29, -⟩ := hd19
            obtain ⟨p15, e4, ha4⟩ := d29
            refine dg_sub (E' := [(47, (.pointer (some p15)))]) ⟨(congrArg some e4), trivial⟩ ?_
            refine dg_plain rfl (ow_load (R := (RSlice RSpan)) rfl rfl ha4 (Tryd.sizeOf93 _) (Tryd.isAgg93 _) fun v33 hv33 => ?_)
            exact ⟨BX.refl _ _, hv33⟩
          · intro w36 D hS20 hd20
            have hl36 := Le.no M3 hS20
            have hC36 := hC30.no hS20
            have ho28 := ho22.no hS20
            have hr33 := hr27.no hS20
            refine dg_sub (E' := [(3, (.pointer (some p2)))]) ⟨rfl, trivial⟩ ?_
            refine dg_plain rfl (ow_fieldAddr rfl rfl Tryd.underlying29 rfl (Tryd.sizeOf27 _) ?_)
            exact ⟨BX.refl _ _, ⟨_, rfl, (ARep.mono ((((((((hl3.trans hl4).trans hl5).trans hl9).trans hl10).trans hl11).trans hl29).trans hl30).trans hl36) (hp2.fld fld_Box_Sides))⟩⟩
          · intro w37 D hS21 hd21
            have hl37 := Le.no M3 hS21
            have hC37 := hC30.no hS21
            have ho29 := ho22.no hS21
            have hr34 := hr27.no hS21
            have hd21 : PA (RSlice (RSlice RSpan)) M3 a_b.Sides (D 5) w37 ∧ True := hd21
            obtain ⟨d30, -⟩ := hd21
            obtain ⟨p16, e5, ha5⟩ := d30
            refine dg_sub (E' := [(49, (.pointer (some p16)))]) ⟨(congrArg some e5), trivial⟩ ?_
            refine dg_plain rfl (ow_load (R := (RSlice (RSlice RSpan))) rfl rfl ha5 (Tryd.sizeOf27 _) (Tryd.isAgg27 _) fun v34 hv34 => ?_)
            exact ⟨BX.refl _ _, hv34⟩
          · intro w38 D hS22 hd22
            have hl38 := Le.no M3 hS22
            have hC38 := hC30.no hS22
            have ho30 := ho22.no hS22
            have hr35 := hr27.no hS22
            refine dg_sub (E' := [(7, (.int .i64 k1))]) ⟨rfl, trivial⟩ ?_
            refine dg_plain rfl (ow_move rfl rfl ?_)
            exact ⟨BX.refl _ _, rfl⟩
          · intro w39 D hS23 hd23
            have hl39 := Le.no M3 hS23
            have hC39 := hC30.no hS23
            have ho31 := ho22.no hS23
            have hr36 := hr27.no hS23
            have hd23 : PV (RSlice (RSlice RSpan)) M3 a_b.Sides (D 6) w39 ∧ PEq (.int .i64 k1) (D 7) w39 ∧ True := hd23
            obtain ⟨d31, d32, -⟩ := hd23
            obtain ⟨v35, hq7⟩ : ∃ v, (D 6) = v := ⟨_, rfl⟩
            rw [hq7] at d31
            refine dg_sub (E' := [(50, v35), (51, (.int .i64 k1))]) ⟨(congrArg some hq7), (congrArg some d32), trivial⟩ ?_
            refine dg_plain rfl (ow_indexSlice (R := (RSlice RSpan)) rfl rfl rfl d31 Tryd.underlying27 (Tryd.sizeOf93 _) hx5 fun p17 hp17 => ?_)
            exact ⟨BX.refl _ _, ⟨_, rfl, hp17⟩⟩
          · intro w40 D hS24 hd24
            have hl40 := Le.no M3 hS24
            have hC40 := hC30.no hS24
            have ho32 := ho22.no hS24
            have hr37 := hr27.no hS24
            have hd24 : PA (RSlice RSpan) M3 x5 (D 8) w40 ∧ True := hd24
            obtain ⟨d33, -⟩ := hd24
            obtain ⟨p18, e6, ha6⟩ := d33
            refine dg_sub (E' := [(52, (.pointer (some p18)))]) ⟨(congrArg some e6), trivial⟩ ?_
            refine dg_plain rfl (ow_load (R := (RSlice RSpan)) rfl rfl ha6 (Tryd.sizeOf93 _) (Tryd.isAgg93 _) fun v36 hv36 => ?_)
            exact ⟨BX.refl _ _, hv36⟩
          · intro w41 D hS25 hd25
            have hl41 := Le.no M3 hS25
            have hC41 := hC30.no hS25
            have ho33 := ho22.no hS25
            have hr38 := hr27.no hS25
            have hd25 : PEq (.pointer (some ⟨g1, 0, none⟩)) (D 0) w41 ∧ PV (RSlice (RSlice RSpan)) M3 y2 (D 1) w41 ∧ PEq (.int .i64 k1) (D 2) w41 ∧ PA (RSlice RSpan) M3 x4 (D 3) w41 ∧ PV (RSlice RSpan) M3 x4 (D 4) w41 ∧ PA (RSlice (RSlice RSpan)) M3 a_b.Sides (D 5) w41 ∧ PV (RSlice (RSlice RSpan)) M3 a_b.Sides (D 6) w41 ∧ PEq (.int .i64 k1) (D 7) w41 ∧ PA (RSlice RSpan) M3 x5 (D 8) w41 ∧ PV (RSlice RSpan) M3 x5 (D 9) w41 ∧ True := hd25
            obtain ⟨-, -, -, -, d38, -, -, -, -, d43, -⟩ := hd25
            obtain ⟨v37, hq8⟩ : ∃ v, (D 4) = v := ⟨_, rfl⟩
            rw [hq8] at d38
            obtain ⟨v38, hq9⟩ : ∃ v, (D 9) = v := ⟨_, rfl⟩
            rw [hq9] at d43
            refine lw_sub (E' := [(48, v37), (53, v38), (3, (.pointer (some p2))), (5, v10), (6, (.pointer (some ⟨g1, 0, none⟩))), (7, (.int .i64 k1)), (8, v28)]) ⟨(congrArg some hq8), (congrArg some hq9), rfl, rfl, rfl, rfl, rfl, trivial⟩ ?_
            replace hb11 := bind_some hb11
            obtain ⟨x9, hx9, hb11⟩ := hb11
            refine lw_op rfl rfl rfl (ow_call rfl rfl Tryd.call122 (w_spec_l2Meet (hG.mono ((((((((((hl1.trans hl2).trans hl3).trans hl4).trans hl5).trans hl9).trans hl10).trans hl11).trans hl29).trans hl30).trans hl41)) hC41.old d38 d43 hx9) fun v39 w42 hv39 => ?_)
            obtain ⟨hv39, hb17⟩ := hv39
            have hl42 := Le.no M3 hb17
            have hC42 := hC41.no hb17
            have ho34 := ho33.no hb17
            have hr39 := hr38.no hb17
            refine lw_op rfl rfl rfl (ow_assign rfl rfl ?_)
            refine lw_nil ?_
            refine ew_then ?_
            refine cw_seq ?_
            refine cw_seq ?_
            refine cw_region ?_
            refine lw_op rfl rfl rfl (ow_move rfl rfl ?_)
            refine lw_op rfl rfl rfl (ow_len rfl rfl (VRep.mono (hl41.trans hl42) hv28) Tryd.underlying93 rfl ?_)
            refine lw_op rfl rfl rfl (ow_gtr rfl rfl rfl fun bb2 hbb2 => ?_)
            refine lw_nil ?_
            refine ew_then ?_
            replace hb11 := cond_some hb11
            rcases hb11 with ⟨hc4, hb11⟩ | ⟨hc4, hb11⟩
            · obtain rfl := hbb2.trans hc4
              refine cw_true rfl ?_
              refine cw_seq ?_
              refine cw_region ?_
              refine lw_op rfl rfl rfl (ow_fieldAddr rfl rfl Tryd.underlying29 rfl (Tryd.sizeOf27 _) ?_)
              refine lw_op rfl rfl rfl (ow_loadOwn1 rfl rfl rfl ho34 (Tryd.isAgg27 _) rfl ?_)
              replace hb11 := bind_some hb11
              obtain ⟨x10, hx10, hb11⟩ := hb11
              refine lw_op rfl rfl rfl (ow_call rfl rfl Tryd.call124 (wo_spec_l1OwnRowsSpan (hG.mono (((((((((((hl1.trans hl2).trans hl3).trans hl4).trans hl5).trans hl9).trans hl10).trans hl11).trans hl29).trans hl30).trans hl41).trans hl42)) hC42.old (VRep.mono (((hl29.trans hl30).trans hl41).trans hl42) hw5) hx10) fun v40 w43 hv40 => ?_)
              obtain ⟨⟨M4, hr40, hk1⟩, hb18⟩ := hv40
              replace hr40 := hr40.base hC42.bx.size
              have hl43 := hk1.le
              have hC43 := hC42.trans hk1
              have ho35 := ho34.no hb18
              have hm3 := hk1.sup _ hm2
              have hr41 := hr39.go hb18 (fun _ _ e => e) hl43 hk1.sup
              obtain ⟨A3, c3, rfl⟩ := hr40.len
              refine lw_op rfl rfl rfl (ow_build (v := .agg #[(.slice A3 x10.length c3)]) rfl rfl (by kernel_rfl) ?_)
              refine lw_op rfl rfl rfl (ow_alloc rfl (Tryd.zeroValue29 _) hC43 fun g2 w44 hg3 hg4 ho36 hb19 hl44 hC44 => ?_)
              have hn3 := Nat.ne_of_lt (Nat.lt_of_lt_of_le ho35.lt hg3)
              have ho37 := ho35.no hb19
              have hm4 : (Add g2 M4) g1 := .inr hm3
              have hn4 := nb_fresh hr41 hg3
              have hr42 := hr41.add hb19 hg3
              have hr43 := hr40.add hb19 hg3
              have hm5 : (Add g2 M4) g2 := .inl rfl
              refine lw_op0 rfl rfl (ow_store (X := No) (us := [(.slice A3 x10.length c3)]) (cs' := #[(.slice A3 x10.length c3)]) rfl rfl rfl rfl ho36 (Tryd.sizeOf29 _) rfl rfl rfl rfl hm5 (.inl hg4) rfl hC44 fun w45 ho38 hb20 hl45 hC45 => ?_)
              have ho39 := ho37.go hb20 (fun e => hn3 e)
              have hr44 := hr42.go hb20 (fun k hk e => hn4 (hk.trans (congrArg some e))) hl45 (fun _ h => h)
              have hr45 := hr43.go hb20 (fun k hk e => (orow_ne hr43 ho36 (by decide)) (hk.trans (congrArg some e))) hl45 (fun _ h => h)
              refine lw_nil ?_
              refine ew_then ?_
              refine cw_seq ?_
              refine cw_region ?_
              refine lw_op rfl rfl rfl (ow_fieldAddr rfl rfl Tryd.underlying29 rfl (Tryd.sizeOf27 _) ?_)
              refine lw_op rfl rfl rfl (ow_loadOwn1 rfl rfl rfl ho38 (Tryd.isAgg27 _) rfl ?_)
              refine lw_op rfl rfl rfl (ow_move rfl rfl ?_)
              refine lw_op rfl rfl rfl (ow_move rfl rfl ?_)
              replace hb11 := bind_some hb11
              obtain ⟨x11, hx11, hb11⟩ := hb11
              refine lw_op rfl rfl rfl (ow_indexRow (R := (RSlice RSpan)) rfl rfl rfl hr45 Tryd.underlying27 (Tryd.sizeOf93 _) hx11 ?_)
              refine lw_op0 rfl rfl (ow_storeElRow (X := No) (R := (RSlice RSpan)) (S := (RSlice RSpan)) rfl rfl rfl rfl hr45 (orow_blk hr45 hx11) hx11 (FldSet.whole (RSlice RSpan)) (Tryd.sizeOf93 _) (VRep.mono ((((hl41.trans hl42).trans hl43).trans hl44).trans hl45) hv28) (Nat.le_refl _) hC45 fun w46 ho40 hb21 hl46 hC46 => ?_)
              have ho41 := ho39.go hb21 (fun e => (orow_ne hr45 ho39 (by decide)) (by rw [orow_blk hr45 hx11]; exact congrArg some e.symm))
              have ho42 := ho38.go hb21 (fun e => (orow_ne hr45 ho38 (by decide)) (by rw [orow_blk hr45 hx11]; exact congrArg some e.symm))
              have hr46 := hr44.go hb21 (fun k hk e => orow_row_ne hr44 hr45 (by decide) hk (by rw [orow_blk hr45 hx11]; exact congrArg some e.symm)) hl46 (fun _ h => h)
              refine lw_nil ?_
              refine ew_then ?_
              refine cw_region ?_
              refine lw_op rfl rfl rfl (ow_move rfl rfl ?_)
              refine lw_op rfl rfl rfl (ow_loadOwnA rfl rfl rfl ho42 (Tryd.isAgg29 _) (Tryd.sizeOf29 _) rfl ?_)
              have hw6 := ho40.freezeDel
              have hC47 := ho40.cxDel hC46 (fun _ e => e.elim) hO
              have hl47 := Le.del w46 (Add g2 M4) (.slice A3 x10.length c3)
              have hm6 : (Del (.slice A3 x10.length c3) (Add g2 M4)) g1 := ⟨hm4, fun e => (orow_ne ho40 ho41 (by decide)) e⟩
              have hm7 : (Del (.slice A3 x10.length c3) (Add g2 M4)) g2 := ⟨hm5, fun e => (orow_ne ho40 ho42 (by decide)) e⟩
              have hr47 := hr46.goDel ho40 (by decide)
              have hw7 : VRep RBox w46 (Del (.slice A3 x10.length c3) (Add g2 M4)) ({ Sides := (List.set x10 (k1 : Int).toNat x8) } : Box) (.agg #[(.slice A3 x10.length c3)]) := shut_Box hw6
              refine lw_op rfl rfl rfl (ow_buildSlice (R := RBox) (xs := [({ Sides := (List.set x10 (k1 : Int).toNat x8) } : Box)]) (cs := #[(.slice A3 x10.length c3)]) (e := 29) rfl rfl (by kernel_rfl) rfl rfl ⟨_, _, rfl, hw7.cells, rfl⟩ hC47 fun p19 w47 hw8 hb22 hl48 hC48 => ?_)
              have ho43 := ho41.no hb22
              have ho44 := ho42.no hb22
              have hr48 := hr47.no hb22
              replace hb11 := bind_some hb11
              obtain ⟨z2, hz2, hb11⟩ := hb11
              refine lw_op rfl rfl rfl (ow_append (R := RBox) rfl rfl rfl rfl Tryd.underlying37 hi29 hz29 hs29 hy29 rfl rfl rfl rfl hr48 hw8 hz2 hC48 fun v41 w48 M5 hr49 hb23 hl49 hC49 hM3 hat3 => ?_)
              have hn5 : v41.ownBlock ≠ some g1 := nb_app hn2 hat3 ho43
              have ho45 := ho43.go hb23 (fun e => hn2 e)
              have hm8 := hM3 _ hm6
              have hn6 : v41.ownBlock ≠ some g2 := nb_app hn4 hat3 ho44
              have ho46 := ho44.go hb23 (fun e => hn4 e)
              have hm9 := hM3 _ hm7
              refine lw_op rfl rfl rfl (ow_assign rfl rfl ?_)
              refine lw_nil ?_
              refine ew_then ?_
              refine cw_seq ?_
              refine cw_region ?_
              refine lw_op rfl rfl rfl (ow_fieldAddr rfl rfl Tryd.underlying29 rfl (Tryd.sizeOf27 _) ?_)
              refine lw_op rfl rfl rfl (ow_loadOwn1 rfl rfl rfl ho45 (Tryd.isAgg27 _) rfl ?_)
              refine lw_op rfl rfl rfl (ow_call rfl rfl Tryd.call124 (wo_spec_l1OwnRowsSpan (hG.mono ((((((((((((((((((hl1.trans hl2).trans hl3).trans hl4).trans hl5).trans hl9).trans hl10).trans hl11).trans hl29).trans hl30).trans hl41).trans hl42).trans hl43).trans hl44).trans hl45).trans hl46).trans hl47).trans hl48).trans hl49)) hC49.old (VRep.mono ((((((((((hl29.trans hl30).trans hl41).trans hl42).trans hl43).trans hl44).trans hl45).trans hl46).trans hl47).trans hl48).trans hl49) hw5) hx10) fun v42 w49 hv42 => ?_)
              obtain ⟨⟨M6, hr50, hk2⟩, hb24⟩ := hv42
              replace hr50 := hr50.base hC49.bx.size
              have hl50 := hk2.le
              have hC50 := hC49.trans hk2
              have ho47 := ho45.no hb24
              have hm10 := hk2.sup _ hm8
              have ho48 := ho46.no hb24
              have hm11 := hk2.sup _ hm9
              have hr51 := hr49.go hb24 (fun _ _ e => e) hl50 hk2.sup
              obtain ⟨A4, c4, rfl⟩ := hr50.len
              refine lw_op rfl rfl rfl (ow_build (v := .agg #[(.slice A4 x10.length c4)]) rfl rfl (by kernel_rfl) ?_)
              refine lw_op rfl rfl rfl (ow_alloc rfl (Tryd.zeroValue29 _) hC50 fun g3 w50 hg5 hg6 ho49 hb25 hl51 hC51 => ?_)
              have hn7 := Nat.ne_of_lt (Nat.lt_of_lt_of_le ho47.lt hg5)
              have ho50 := ho47.no hb25
              have hm12 : (Add g3 M6) g1 := .inr hm10
              have hn8 := Nat.ne_of_lt (Nat.lt_of_lt_of_le ho48.lt hg5)
              have ho51 := ho48.no hb25
              have hm13 : (Add g3 M6) g2 := .inr hm11
              have hn9 := nb_fresh hr51 hg5
              have hr52 := hr51.add hb25 hg5
              have hr53 := hr50.add hb25 hg5
              have hm14 : (Add g3 M6) g3 := .inl rfl
              refine lw_op0 rfl rfl (ow_store (X := No) (us := [(.slice A4 x10.length c4)]) (cs' := #[(.slice A4 x10.length c4)]) rfl rfl rfl rfl ho49 (Tryd.sizeOf29 _) rfl rfl rfl rfl hm14 (.inl hg6) rfl hC51 fun w51 ho52 hb26 hl52 hC52 => ?_)
              have ho53 := ho50.go hb26 (fun e => hn7 e)
              have ho54 := ho51.go hb26 (fun e => hn8 e)
              have hr54 := hr52.go hb26 (fun k hk e => hn9 (hk.trans (congrArg some e))) hl52 (fun _ h => h)
              have hr55 := hr53.go hb26 (fun k hk e => (orow_ne hr53 ho49 (by decide)) (hk.trans (congrArg some e))) hl52 (fun _ h => h)
              refine lw_nil ?_
              refine ew_then ?_
              refine cw_seq ?_
              refine cw_region ?_
              refine lw_op rfl rfl rfl (ow_fieldAddr rfl rfl Tryd.underlying29 rfl (Tryd.sizeOf27 _) ?_)
              refine lw_op rfl rfl rfl (ow_loadOwn1 rfl rfl rfl ho52 (Tryd.isAgg27 _) rfl ?_)
              refine lw_op rfl rfl rfl (ow_move rfl rfl ?_)
              refine lw_op rfl rfl rfl (ow_move rfl rfl ?_)
              refine lw_op rfl rfl rfl (ow_indexRow (R := (RSlice RSpan)) rfl rfl rfl hr55 Tryd.underlying27 (Tryd.sizeOf93 _) hx11 ?_)
              refine lw_op0 rfl rfl (ow_storeElRow (X := No) (R := (RSlice RSpan)) (S := (RSlice RSpan)) rfl rfl rfl rfl hr55 (orow_blk hr55 hx11) hx11 (FldSet.whole (RSlice RSpan)) (Tryd.sizeOf93 _) (VRep.mono (((((((((hl43.trans hl44).trans hl45).trans hl46).trans hl47).trans hl48).trans hl49).trans hl50).trans hl51).trans hl52) hv39) (Nat.le_refl _) hC52 fun w52 ho55 hb27 hl53 hC53 => ?_)
              have ho56 := ho53.go hb27 (fun e => (orow_ne hr55 ho53 (by decide)) (by rw [orow_blk hr55 hx11]; exact congrArg some e.symm))
              have ho57 := ho54.go hb27 (fun e => (orow_ne hr55 ho54 (by decide)) (by rw [orow_blk hr55 hx11]; exact congrArg some e.symm))
              have ho58 := ho52.go hb27 (fun e => (orow_ne hr55 ho52 (by decide)) (by rw [orow_blk hr55 hx11]; exact congrArg some e.symm))
              have hr56 := hr54.go hb27 (fun k hk e => orow_row_ne hr54 hr55 (by decide) hk (by rw [orow_blk hr55 hx11]; exact congrArg some e.symm)) hl53 (fun _ h => h)
              refine lw_nil ?_
              refine ew_then ?_
              refine cw_region ?_
              refine lw_op rfl rfl rfl (ow_loadOwnA rfl rfl rfl ho58 (Tryd.isAgg29 _) (Tryd.sizeOf29 _) rfl ?_)
              have hw9 := ho55.freezeDel
              have hC54 := ho55.cxDel hC53 (fun _ e => e.elim) hO
              have hl54 := Le.del w52 (Add g3 M6) (.slice A4 x10.length c4)
              have hm15 : (Del (.slice A4 x10.length c4) (Add g3 M6)) g1 := ⟨hm12, fun e => (orow_ne ho55 ho56 (by decide)) e⟩
              have hm16 : (Del (.slice A4 x10.length c4) (Add g3 M6)) g2 := ⟨hm13, fun e => (orow_ne ho55 ho57 (by decide)) e⟩
              have hm17 : (Del (.slice A4 x10.length c4) (Add g3 M6)) g3 := ⟨hm14, fun e => (orow_ne ho55 ho58 (by decide)) e⟩
              have hr57 := hr56.goDel ho55 (by decide)
              have hw10 : VRep RBox w52 (Del (.slice A4 x10.length c4) (Add g3 M6)) ({ Sides := (List.set x10 (k1 : Int).toNat x9) } : Box) (.agg #[(.slice A4 x10.length c4)]) := shut_Box hw9
              refine lw_op0 rfl rfl (ow_store (X := No) (us := [(.slice A4 x10.length c4)]) (cs' := #[(.slice A4 x10.length c4)]) rfl rfl rfl rfl ho56 (Tryd.sizeOf29 _) rfl rfl rfl rfl hm15 (.inl hg2) rfl hC54 fun w53 ho59 hb28 hl55 hC55 => ?_)
              have ho60 := ho57.go hb28 (fun e => hn3 e.symm)
              have ho61 := ho58.go hb28 (fun e => hn7 e.symm)
              have hr58 := hr57.go hb28 (fun k hk e => hn5 (hk.trans (congrArg some e))) hl55 (fun _ h => h)
              refine lw_nil ?_
              refine ew_blockN ?_
              refine ew_then ?_
              refine cw_region ?_
              refine lw_op rfl rfl rfl (ow_move rfl rfl ?_)
              refine lw_op rfl rfl rfl (ow_add rfl rfl rfl ?_)
              refine lw_op rfl rfl rfl (ow_assign rfl rfl ?_)
              refine lw_nil ?_
              refine ew_nxt (z2, (W (k1 + 1)), (List.set x10 (k1 : Int).toNat x9)) hb11 fun a ha => ⟨(Del (.slice A4 x10.length c4) (Add g3 M6)), v41, (.slice A4 x10.length c4), ?_, (((((((((((((((((hl11.trans hl29).trans hl30).trans hl41).trans hl42).trans hl43).trans hl44).trans hl45).trans hl46).trans hl47).trans hl48).trans hl49).trans hl50).trans hl51).trans hl52).trans hl53).trans hl54).trans hl55), hC55, hr58, (VRep.mono hl55 hw9), ho59, hm15, hn5⟩
              exact ha.sub ⟨rfl, rfl, rfl, rfl, trivial⟩
            · obtain rfl := hbb2.trans hc4
              refine cw_false rfl ?_
              refine cw_skip ?_
              refine ew_then ?_
              refine cw_seq ?_
              refine cw_region ?_
              refine lw_op rfl rfl rfl (ow_fieldAddr rfl rfl Tryd.underlying29 rfl (Tryd.sizeOf27 _) ?_)
              refine lw_op rfl rfl rfl (ow_loadOwn1 rfl rfl rfl ho34 (Tryd.isAgg27 _) rfl ?_)
              replace hb11 := bind_some hb11
              obtain ⟨x12, hx12, hb11⟩ := hb11
              refine lw_op rfl rfl rfl (ow_call rfl rfl Tryd.call124 (wo_spec_l1OwnRowsSpan (hG.mono (((((((((((hl1.trans hl2).trans hl3).trans hl4).trans hl5).trans hl9).trans hl10).trans hl11).trans hl29).trans hl30).trans hl41).trans hl42)) hC42.old (VRep.mono (((hl29.trans hl30).trans hl41).trans hl42) hw5) hx12) fun v43 w54 hv43 => ?_)
              obtain ⟨⟨M7, hr59, hk3⟩, hb29⟩ := hv43
              replace hr59 := hr59.base hC42.bx.size
              have hl56 := hk3.le
              have hC56 := hC42.trans hk3
              have ho62 := ho34.no hb29
              have hm18 := hk3.sup _ hm2
              have hr60 := hr39.go hb29 (fun _ _ e => e) hl56 hk3.sup
              obtain ⟨A5, c5, rfl⟩ := hr59.len
              refine lw_op rfl rfl rfl (ow_build (v := .agg #[(.slice A5 x12.length c5)]) rfl rfl (by kernel_rfl) ?_)
              refine lw_op rfl rfl rfl (ow_alloc rfl (Tryd.zeroValue29 _) hC56 fun g4 w55 hg7 hg8 ho63 hb30 hl57 hC57 => ?_)
              have hn10 := Nat.ne_of_lt (Nat.lt_of_lt_of_le ho62.lt hg7)
              have ho64 := ho62.no hb30
              have hm19 : (Add g4 M7) g1 := .inr hm18
              have hn11 := nb_fresh hr60 hg7
              have hr61 := hr60.add hb30 hg7
              have hr62 := hr59.add hb30 hg7
              have hm20 : (Add g4 M7) g4 := .inl rfl
              refine lw_op0 rfl rfl (ow_store (X := No) (us := [(.slice A5 x12.length c5)]) (cs' := #[(.slice A5 x12.length c5)]) rfl rfl rfl rfl ho63 (Tryd.sizeOf29 _) rfl rfl rfl rfl hm20 (.inl hg8) rfl hC57 fun w56 ho65 hb31 hl58 hC58 => ?_)
              have ho66 := ho64.go hb31 (fun e => hn10 e)
              have hr63 := hr61.go hb31 (fun k hk e => hn11 (hk.trans (congrArg some e))) hl58 (fun _ h => h)
              have hr64 := hr62.go hb31 (fun k hk e => (orow_ne hr62 ho63 (by decide)) (hk.trans (congrArg some e))) hl58 (fun _ h => h)
              refine lw_nil ?_
              refine ew_then ?_
              refine cw_seq ?_
              refine cw_region ?_
              refine lw_op rfl rfl rfl (ow_fieldAddr rfl rfl Tryd.underlying29 rfl (Tryd.sizeOf27 _) ?_)
              refine lw_op rfl rfl rfl (ow_loadOwn1 rfl rfl rfl ho65 (Tryd.isAgg27 _) rfl ?_)
              refine lw_op rfl rfl rfl (ow_move rfl rfl ?_)
              refine lw_op rfl rfl rfl (ow_move rfl rfl ?_)
              replace hb11 := bind_some hb11
              obtain ⟨x13, hx13, hb11⟩ := hb11
              refine lw_op rfl rfl rfl (ow_indexRow (R := (RSlice RSpan)) rfl rfl rfl hr64 Tryd.underlying27 (Tryd.sizeOf93 _) hx13 ?_)
              refine lw_op0 rfl rfl (ow_storeElRow (X := No) (R := (RSlice RSpan)) (S := (RSlice RSpan)) rfl rfl rfl rfl hr64 (orow_blk hr64 hx13) hx13 (FldSet.whole (RSlice RSpan)) (Tryd.sizeOf93 _) (VRep.mono ((hl56.trans hl57).trans hl58) hv39) (Nat.le_refl _) hC58 fun w57 ho67 hb32 hl59 hC59 => ?_)
              have ho68 := ho66.go hb32 (fun e => (orow_ne hr64 ho66 (by decide)) (by rw [orow_blk hr64 hx13]; exact congrArg some e.symm))
              have ho69 := ho65.go hb32 (fun e => (orow_ne hr64 ho65 (by decide)) (by rw [orow_blk hr64 hx13]; exact congrArg some e.symm))
              have hr65 := hr63.go hb32 (fun k hk e => orow_row_ne hr63 hr64 (by decide) hk (by rw [orow_blk hr64 hx13]; exact congrArg some e.symm)) hl59 (fun _ h => h)
              refine lw_nil ?_
              refine ew_then ?_
              refine cw_region ?_
              refine lw_op rfl rfl rfl (ow_loadOwnA rfl rfl rfl ho69 (Tryd.isAgg29 _) (Tryd.sizeOf29 _) rfl ?_)
              have hw11 := ho67.freezeDel
              have hC60 := ho67.cxDel hC59 (fun _ e => e.elim) hO
              have hl60 := Le.del w57 (Add g4 M7) (.slice A5 x12.length c5)
              have hm21 : (Del (.slice A5 x12.length c5) (Add g4 M7)) g1 := ⟨hm19, fun e => (orow_ne ho67 ho68 (by decide)) e⟩
              have hm22 : (Del (.slice A5 x12.length c5) (Add g4 M7)) g4 := ⟨hm20, fun e => (orow_ne ho67 ho69 (by decide)) e⟩
              have hr66 := hr65.goDel ho67 (by decide)
              have hw12 : VRep RBox w57 (Del (.slice A5 x12.length c5) (Add g4 M7)) ({ Sides := (List.set x12 (k1 : Int).toNat x9) } : Box) (.agg #[(.slice A5 x12.length c5)]) := shut_Box hw11
              refine lw_op0 rfl rfl (ow_store (X := No) (us := [(.slice A5 x12.length c5)]) (cs' := #[(.slice A5 x12.length c5)]) rfl rfl rfl rfl ho68 (Tryd.sizeOf29 _) rfl rfl rfl rfl hm21 (.inl hg2) rfl hC60 fun w58 ho70 hb33 hl61 hC61 => ?_)
              have ho71 := ho69.go hb33 (fun e => hn10 e.symm)
              have hr67 := hr66.go hb33 (fun k hk e => hn2 (hk.trans (congrArg some e))) hl61 (fun _ h => h)
              refine lw_nil ?_
              refine ew_blockN ?_
              refine ew_then ?_
              refine cw_region ?_
              refine lw_op rfl rfl rfl (ow_move rfl rfl ?_)
              refine lw_op rfl rfl rfl (ow_add rfl rfl rfl ?_)
              refine lw_op rfl rfl rfl (ow_assign rfl rfl ?_)
              refine lw_nil ?_
              refine ew_nxt (y1, (W (k1 + 1)), (List.set x12 (k1 : Int).toNat x9)) hb11 fun a ha => ⟨(Del (.slice A5 x12.length c5) (Add g4 M7)), v10, (.slice A5 x12.length c5), ?_, ((((((((((hl11.trans hl29).trans hl30).trans hl41).trans hl42).trans hl56).trans hl57).trans hl58).trans hl59).trans hl60).trans hl61), hC61, hr67, (VRep.mono hl61 hw11), ho70, hm21, hn2⟩
              exact ha.sub ⟨rfl, rfl, rfl, rfl, trivial⟩
      · obtain rfl := hbb1.trans hc3
        refine cw_false rfl ?_
        refine cw_exit ?_
        refine ew_thenX ?_
        refine ew_thenX ?_
        refine ew_blockX ?_
        refine ew_brk (y1, k1, y2) hb11 fun a ha => ⟨M3, v10, v12, ?_, hl11, hC11, hw4, hw5, ho3, hm2, hn2⟩
        exact ha.sub ⟨rfl, rfl, rfl, rfl, trivial⟩
    · rintro ⟨y3, k2, y4⟩ a w59 hlr2 ⟨M8, v44, v46, hF2, hl62, hC62, hw13, hw14, ho72, hm23, hn12⟩
      subst hlr2
      refine ew_at (E := [(3, (.pointer (some p2))), (5, v44), (6, (.pointer (some ⟨g1, 0, none⟩))), (7, (.int .i64 k2))]) hF2 ?_
      refine ew_then ?_
      refine cw_seq ?_
      refine cw_region ?_
      refine lw_op rfl rfl rfl (ow_move rfl rfl ?_)
      refine lw_op rfl rfl rfl (ow_assign rfl rfl ?_)
      refine lw_nil ?_
      refine ew_then ?_
      refine cw_ret ?_
      obtain rfl := Option.some.inj h
      exact ew_ret (res1 rfl (.tmp rfl)) ⟨_, rfl, (hw13.freezeBack hC62 hO), hC62.bx⟩

theorem w_spec_BoxWithin {w : World} {M : Nat → Prop} (hG : ARep (RArr 4 RShape) w M shapes ⟨0, 0, none⟩) (hO : ∀ b, M b → b < w.heap.size) {v0p : Value} {a_a : Box} (h0 : VRep RBox w M a_a v0p) {v1p : Value} {a_b : Box} (h1 : VRep RBox w M a_b v1p) {r : Bool} (h : F.spec_BoxWithin a_a a_b = some r) :
    Calls Tryd.prog 26 [v0p, v1p].toArray w fun e w' => ∃ v, e = .returned v ∧ VRep RBool w' M r v ∧ BX No w w' := by
  have hC : Cx No w M w M := Cx.start hO (fun _ e => e.elim)
  refine walk (N := 18) Tryd.func26 rfl Tryd.ntmps26 rfl ?_
  refine cw_seq ?_
  refine cw_region ?_
  refine lw_op rfl rfl rfl (ow_box (R := RBox) rfl rfl h0 hC fun p1 w1 hp1 hb1 hl1 hC1 => ?_)
  refine lw_op rfl rfl rfl (ow_box (R := RBox) rfl rfl (VRep.mono hl1 h1) hC1 fun p2 w2 hp2 hb2 hl2 hC2 => ?_)
  refine lw_op rfl rfl rfl (ow_assign rfl rfl ?_)
  refine lw_nil ?_
  refine ew_then ?_
  refine cw_seq ?_
  refine cw_region ?_
  refine lw_op rfl rfl rfl (ow_load (R := RBox) rfl rfl (ARep.mono hl2 hp1) (Tryd.sizeOf29 _) (Tryd.isAgg29 _) fun v1 hv1 => ?_)
  replace h := bind_some h
  obtain ⟨x1, hx1, h⟩ := h
  refine lw_op rfl rfl rfl (ow_call rfl rfl Tryd.call57 (w_spec_BoxValid (hG.mono (hl1.trans hl2)) hC2.old hv1 hx1) fun v2 w3 hv2 => ?_)
  obtain ⟨hv2, hb3⟩ := hv2
  have hl3 := Le.no M hb3
  have hC3 := hC2.no hb3
  obtain rfl := vbool_eq hv2
  refine lw_op rfl rfl rfl (ow_move rfl rfl ?_)
  replace h := cond_some h
  rcases h with ⟨hc1, h⟩ | ⟨hc1, h⟩
  · subst hc1
    refine lw_on rfl rfl rfl rfl rfl rfl (ow_load (R := RBox) rfl rfl (ARep.mono hl3 hp2) (Tryd.sizeOf29 _) (Tryd.isAgg29 _) fun v3 hv3 => ?_)
    replace h := bind_some h
    obtain ⟨x2, hx2, h⟩ := h
    refine lw_on rfl rfl rfl rfl rfl rfl (ow_call rfl rfl Tryd.call57 (w_spec_BoxValid (hG.mono ((hl1.trans hl2).trans hl3)) hC3.old hv3 hx2) fun v4 w4 hv4 => ?_)
    obtain ⟨hv4, hb4⟩ := hv4
    have hl4 := Le.no M hb4
    have hC4 := hC3.no hb4
    obtain rfl := vbool_eq hv4
    refine lw_op rfl rfl rfl (ow_pickT rfl rfl rfl ?_)
    refine lw_op rfl rfl rfl (ow_move rfl rfl ?_)
    replace h := cond_some h
    rcases h with ⟨hc2, h⟩ | ⟨hc2, h⟩
    · subst hc2
      refine lw_on rfl rfl rfl rfl rfl rfl (ow_load (R := RBox) rfl rfl (ARep.mono ((hl2.trans hl3).trans hl4) hp1) (Tryd.sizeOf29 _) (Tryd.isAgg29 _) fun v5 hv5 => ?_)
      refine lw_on rfl rfl rfl rfl rfl rfl (ow_load (R := RBox) rfl rfl (ARep.mono (hl3.trans hl4) hp2) (Tryd.sizeOf29 _) (Tryd.isAgg29 _) fun v6 hv6 => ?_)
      replace h := bind_some h
      obtain ⟨x3, hx3, h⟩ := h
      refine lw_on rfl rfl rfl rfl rfl rfl (ow_call rfl rfl Tryd.call72 (w_spec_l11Cut (hG.mono (((hl1.trans hl2).trans hl3).trans hl4)) hC4.old hv5 hv6 hx3) fun v7 w5 hv7 => ?_)
      obtain ⟨hv7, hb5⟩ := hv7
      have hl5 := Le.no M hb5
      have hC5 := hC4.no hb5
      refine lw_on rfl rfl rfl rfl rfl rfl (ow_len rfl rfl hv7 Tryd.underlying37 rfl ?_)
      refine lw_on rfl rfl rfl rfl rfl rfl (ow_eqlI rfl rfl rfl fun bb1 hbb1 => ?_)
      refine lw_op rfl rfl rfl (ow_pickT rfl rfl rfl ?_)
      refine lw_op rfl rfl rfl (ow_assign rfl rfl ?_)
      refine lw_nil ?_
      refine ew_then ?_
      refine cw_ret ?_
      obtain rfl := Option.some.inj h
      exact ew_ret (res1 rfl (.tmp rfl)) ⟨_, rfl, ((vbool_of hbb1)), hC5.bx⟩
    · subst hc2
      refine lw_off rfl rfl rfl rfl rfl rfl ?_
      refine lw_off rfl rfl rfl rfl rfl rfl ?_
      refine lw_off rfl rfl rfl rfl rfl rfl ?_
      refine lw_off rfl rfl rfl rfl rfl rfl ?_
      refine lw_off rfl rfl rfl rfl rfl rfl ?_
      refine lw_op rfl rfl rfl (ow_pickF rfl rfl rfl ?_)
      refine lw_op rfl rfl rfl (ow_assign rfl rfl ?_)
      refine lw_nil ?_
      refine ew_then ?_
      refine cw_ret ?_
      obtain rfl := Option.some.inj h
      exact ew_ret (res1 rfl (.tmp rfl)) ⟨_, rfl, ((vbool _)), hC4.bx⟩
  · subst hc1
    refine lw_off rfl rfl rfl rfl rfl rfl ?_
    refine lw_off rfl rfl rfl rfl rfl rfl ?_
    refine lw_op rfl rfl rfl (ow_pickF rfl rfl rfl ?_)
    refine lw_op rfl rfl rfl (ow_move rfl rfl ?_)
    refine lw_off rfl rfl rfl rfl rfl rfl ?_
    refine lw_off rfl rfl rfl rfl rfl rfl ?_
    refine lw_off rfl rfl rfl rfl rfl rfl ?_
    refine lw_off rfl rfl rfl rfl rfl rfl ?_
    refine lw_off rfl rfl rfl rfl rfl rfl ?_
    refine lw_op rfl rfl rfl (ow_pickF rfl rfl rfl ?_)
    refine lw_op rfl rfl rfl (ow_assign rfl rfl ?_)
    refine lw_nil ?_
    refine ew_then ?_
    refine cw_ret ?_
    obtain rfl := Option.some.inj h
    exact ew_ret (res1 rfl (.tmp rfl)) ⟨_, rfl, ((vbool _)), hC3.bx⟩

theorem w_spec_BoxSame {w : World} {M : Nat → Prop} (hG : ARep (RArr 4 RShape) w M shapes ⟨0, 0, none⟩) (hO : ∀ b, M b → b < w.heap.size) {v0p : Value} {a_a : Box} (h0 : VRep RBox w M a_a v0p) {v1p : Value} {a_b : Box} (h1 : VRep RBox w M a_b v1p) {r : Bool} (h : F.spec_BoxSame a_a a_b = some r) :
    Calls Tryd.prog 16 [v0p, v1p].toArray w fun e w' => ∃ v, e = .returned v ∧ VRep RBool w' M r v ∧ BX No w w' := by
  have hC : Cx No w M w M := Cx.start hO (fun _ e => e.elim)
  refine walk (N := 13) Tryd.func16 rfl Tryd.ntmps16 rfl ?_
  refine cw_seq ?_
  refine cw_region ?_
  refine lw_op rfl rfl rfl (ow_box (R := RBox) rfl rfl h0 hC fun p1 w1 hp1 hb1 hl1 hC1 => ?_)
  refine lw_op rfl rfl rfl (ow_box (R := RBox) rfl rfl (VRep.mono hl1 h1) hC1 fun p2 w2 hp2 hb2 hl2 hC2 => ?_)
  refine lw_op rfl rfl rfl (ow_assign rfl rfl ?_)
  refine lw_nil ?_
  refine ew_then ?_
  refine cw_seq ?_
  refine cw_region ?_
  refine lw_op rfl rfl rfl (ow_load (R := RBox) rfl rfl (ARep.mono hl2 hp1) (Tryd.sizeOf29 _) (Tryd.isAgg29 _) fun v1 hv1 => ?_)
  refine lw_op rfl rfl rfl (ow_load (R := RBox) rfl rfl hp2 (Tryd.sizeOf29 _) (Tryd.isAgg29 _) fun v2 hv2 => ?_)
  replace h := bind_some h
  obtain ⟨x1, hx1, h⟩ := h
  refine lw_op rfl rfl rfl (ow_call rfl rfl Tryd.call26 (w_spec_BoxWithin (hG.mono (hl1.trans hl2)) hC2.old hv1 hv2 hx1) fun v3 w3 hv3 => ?_)
  obtain ⟨hv3, hb3⟩ := hv3
  have hl3 := Le.no M hb3
  have hC3 := hC2.no hb3
  obtain rfl := vbool_eq hv3
  refine lw_op rfl rfl rfl (ow_move rfl rfl ?_)
  replace h := cond_some h
  rcases h with ⟨hc1, h⟩ | ⟨hc1, h⟩
  · subst hc1
    refine lw_on rfl rfl rfl rfl rfl rfl (ow_load (R := RBox) rfl rfl (ARep.mono hl3 hp2) (Tryd.sizeOf29 _) (Tryd.isAgg29 _) fun v4 hv4 => ?_)
    refine lw_on rfl rfl rfl rfl rfl rfl (ow_load (R := RBox) rfl rfl (ARep.mono (hl2.trans hl3) hp1) (Tryd.sizeOf29 _) (Tryd.isAgg29 _) fun v5 hv5 => ?_)
    replace h := bind_some h
    obtain ⟨x2, hx2, h⟩ := h
    refine lw_on rfl rfl rfl rfl rfl rfl (ow_call rfl rfl Tryd.call26 (w_spec_BoxWithin (hG.mono ((hl1.trans hl2).trans hl3)) hC3.old hv4 hv5 hx2) fun v6 w4 hv6 => ?_)
    obtain ⟨hv6, hb4⟩ := hv6
    have hl4 := Le.no M hb4
    have hC4 := hC3.no hb4
    obtain rfl := vbool_eq hv6
    refine lw_op rfl rfl rfl (ow_pickT rfl rfl rfl ?_)
    refine lw_op rfl rfl rfl (ow_assign rfl rfl ?_)
    refine lw_nil ?_
    refine ew_then ?_
    refine cw_ret ?_
    obtain rfl := Option.some.inj h
    exact ew_ret (res1 rfl (.tmp rfl)) ⟨_, rfl, ((vbool _)), hC4.bx⟩
  · subst hc1
    refine lw_off rfl rfl rfl rfl rfl rfl ?_
    refine lw_off rfl rfl rfl rfl rfl rfl ?_
    refine lw_off rfl rfl rfl rfl rfl rfl ?_
    refine lw_op rfl rfl rfl (ow_pickF rfl rfl rfl ?_)
    refine lw_op rfl rfl rfl (ow_assign rfl rfl ?_)
    refine lw_nil ?_
    refine ew_then ?_
    refine cw_ret ?_
    obtain rfl := Option.some.inj h
    exact ew_ret (res1 rfl (.tmp rfl)) ⟨_, rfl, ((vbool _)), hC3.bx⟩

theorem w_laws_toSpan {w : World} {M : Nat → Prop} (_hG : ARep (RArr 4 RShape) w M shapes ⟨0, 0, none⟩) (hO : ∀ b, M b → b < w.heap.size) {v0p : Value} {a_a : Span} (h0 : VRep RSpan w M a_a v0p) {r : Span} (h : F.laws_toSpan a_a = some r) :
    Calls Tryd.prog 145 [v0p].toArray w fun e w' => ∃ v, e = .returned v ∧ VRep RSpan w' M r v ∧ BX No w w' := by
  have hC : Cx No w M w M := Cx.start hO (fun _ e => e.elim)
  clear _hG
  refine walk (N := 11) Tryd.func145 rfl Tryd.ntmps145 rfl ?_
  refine cw_seq ?_
  refine cw_region ?_
  refine lw_op rfl rfl rfl (ow_box (R := RSpan) rfl rfl h0 hC fun p1 w1 hp1 hb1 hl1 hC1 => ?_)
  refine lw_op rfl rfl rfl (ow_alloc rfl (Tryd.zeroValue140 _) hC1 fun g1 w2 hg1 hg2 ho1 hb2 hl2 hC2 => ?_)
  have hm1 : (Add g1 M) g1 := .inl rfl
  refine lw_nil ?_
  refine ew_then ?_
  refine cw_seq ?_
  refine cw_region ?_
  refine lw_op rfl rfl rfl (ow_alloc rfl (Tryd.zeroValue140 _) hC2 fun g2 w3 hg3 hg4 ho2 hb3 hl3 hC3 => ?_)
  have hn1 := Nat.ne_of_lt (Nat.lt_of_lt_of_le ho1.lt hg3)
  have ho3 := ho1.no hb3
  have hm2 : (Add g2 (Add g1 M)) g1 := .inr hm1
  have hm3 : (Add g2 (Add g1 M)) g2 := .inl rfl
  refine lw_nil ?_
  refine ew_then ?_
  refine cw_seq ?_
  refine cw_region ?_
  refine lw_op rfl rfl rfl (ow_fieldAddr rfl rfl Tryd.underlying194 rfl (Tryd.sizeOf3 _) ?_)
  refine lw_op rfl rfl rfl (ow_load (R := RInt) rfl rfl (ARep.mono (hl2.trans hl3) (hp1.fld fld_Span_Lo)) (Tryd.sizeOf3 _) (Tryd.isAgg3 _) fun v1 hv1 => ?_)
  obtain rfl := vint_eq hv1
  refine lw_op rfl rfl rfl (ow_fieldAddr rfl rfl Tryd.underlying140 rfl (Tryd.sizeOf3 _) ?_)
  refine lw_op0 rfl rfl (ow_store (X := No) (us := [(.int .i64 a_a.Lo)]) (cs' := #[(.int .i64 a_a.Lo), (.int .i64 0)]) rfl rfl rfl rfl ho2 (Tryd.sizeOf3 _) rfl rfl rfl rfl hm3 (.inl hg4) rfl hC3 fun w4 ho4 hb4 hl4 hC4 => ?_)
  have ho5 := ho3.go hb4 (fun e => hn1 e)
  refine lw_nil ?_
  refine ew_then ?_
  refine cw_seq ?_
  refine cw_region ?_
  refine lw_op rfl rfl rfl (ow_fieldAddr rfl rfl Tryd.underlying194 rfl (Tryd.sizeOf3 _) ?_)
  refine lw_op rfl rfl rfl (ow_load (R := RInt) rfl rfl (ARep.mono ((hl2.trans hl3).trans hl4) (hp1.fld fld_Span_Hi)) (Tryd.sizeOf3 _) (Tryd.isAgg3 _) fun v2 hv2 => ?_)
  obtain rfl := vint_eq hv2
  refine lw_op rfl rfl rfl (ow_fieldAddr rfl rfl Tryd.underlying140 rfl (Tryd.sizeOf3 _) ?_)
  refine lw_op0 rfl rfl (ow_store (X := No) (us := [(.int .i64 a_a.Hi)]) (cs' := #[(.int .i64 a_a.Lo), (.int .i64 a_a.Hi)]) rfl rfl rfl rfl ho4 (Tryd.sizeOf3 _) rfl rfl rfl rfl hm3 (.inl hg4) rfl hC4 fun w5 ho6 hb5 hl5 hC5 => ?_)
  have ho7 := ho5.go hb5 (fun e => hn1 e)
  refine lw_nil ?_
  refine ew_then ?_
  refine cw_seq ?_
  refine cw_region ?_
  refine lw_op rfl rfl rfl (ow_loadOwnA rfl rfl rfl ho6 (Tryd.isAgg140 _) (Tryd.sizeOf140 _) rfl ?_)
  have hw1 : VRep RSpan w5 (Add g2 (Add g1 M)) ({ Lo := a_a.Lo, Hi := a_a.Hi } : Span) (.agg #[(.int .i64 a_a.Lo), (.int .i64 a_a.Hi)]) := shut_Span
  refine lw_op0 rfl rfl (ow_store (X := No) (us := [(.int .i64 a_a.Lo), (.int .i64 a_a.Hi)]) (cs' := #[(.int .i64 a_a.Lo), (.int .i64 a_a.Hi)]) rfl rfl rfl rfl ho7 (Tryd.sizeOf140 _) rfl rfl rfl rfl hm2 (.inl hg2) rfl hC5 fun w6 ho8 hb6 hl6 hC6 => ?_)
  have ho9 := ho6.go hb6 (fun e => hn1 e.symm)
  refine lw_nil ?_
  refine ew_then ?_
  refine cw_ret ?_
  have hw2 : VRep RSpan w6 (Add g2 (Add g1 M)) ({ Lo := a_a.Lo, Hi := a_a.Hi } : Span) (.agg #[(.int .i64 a_a.Lo), (.int .i64 a_a.Hi)]) := shut_Span
  obtain rfl := Option.some.inj h
  exact ew_ret (res1 rfl (.cell rfl (own_loadVarA ho8 (Tryd.isAgg140 _) (Tryd.sizeOf140 _) rfl))) ⟨_, rfl, (hw2.mono hC6.back), hC6.bx⟩

theorem w_laws_toSpanS {w : World} {M : Nat → Prop} (hG : ARep (RArr 4 RShape) w M shapes ⟨0, 0, none⟩) (hO : ∀ b, M b → b < w.heap.size) {v0p : Value} {a_a : List Span} (h0 : VRep (RSlice RSpan) w M a_a v0p) {r : (List Span)} (h : F.laws_toSpanS a_a = some r) :
    Calls Tryd.prog 113 [v0p].toArray w fun e w' => ∃ v, e = .returned v ∧ VRep (RSlice RSpan) w' M r v ∧ BX No w w' := by
  obtain ⟨i140, hi140, hz140, hs140, hy140⟩ := info140
  have hC : Cx No w M w M := Cx.start hO (fun _ e => e.elim)
  refine walk (N := 23) Tryd.func113 rfl Tryd.ntmps113 rfl ?_
  refine cw_seq ?_
  refine cw_region ?_
  refine lw_op rfl rfl rfl (ow_assign rfl rfl ?_)
  refine lw_nil ?_
  refine ew_then ?_
  refine cw_seq ?_
  refine cw_region ?_
  refine lw_op rfl rfl rfl (ow_move rfl rfl ?_)
  refine lw_op rfl rfl rfl (ow_len rfl rfl h0 Tryd.underlying145 rfl ?_)
  replace h := bind_some h
  obtain ⟨mk1, hmk1, h⟩ := h
  refine lw_op rfl rfl rfl (ow_make (R := RSpan) rfl rfl rfl Tryd.underlying93 hi140 hz140 hs140 hy140 rfl rfl (shut_Span) hmk1 hC fun v1 w1 M1 hr1 hb1 hl1 hC1 hM1 hat1 => ?_)
  refine lw_op rfl rfl rfl (ow_assign rfl rfl ?_)
  refine lw_nil ?_
  refine ew_then ?_
  refine cw_seq ?_
  refine cw_seq ?_
  refine cw_region ?_
  refine lw_op rfl rfl rfl (ow_assign rfl rfl ?_)
  refine lw_nil ?_
  refine ew_then ?_
  replace h := bind_some h
  obtain ⟨lr1, hlr1, h⟩ := h
  refine cw_for hlr1 (fun s a w' => ∃ (M' : Nat → Prop), Fits 23 [(0, v0p), (3, v1), (4, (.int .i64 s.1))] a ∧ Le w1 M1 w' M' ∧ Cx No w M w' M' ∧ OwnRow RSpan w.heap.size 140 w' M' s.2 v1) ?_ ?_ ?_
  · intro a ha
    exact ⟨M1, ha.sub ⟨rfl, rfl, rfl, trivial⟩, Le.refl _ _, hC1, hr1⟩
  · rintro ⟨k1, y1⟩ a w2 sr1 ⟨M2, hF1, hl2, hC2, hw1⟩ hb2 hR1
    refine cw_at (E := [(0, v0p), (3, v1), (4, (.int .i64 k1))]) hF1 ?_
    refine cw_seq ?_
    refine cw_seq ?_
    refine cw_region ?_
    refine lw_op rfl rfl rfl (ow_move rfl rfl ?_)
    refine lw_op rfl rfl rfl (ow_move rfl rfl ?_)
    refine lw_op rfl rfl rfl (ow_len rfl rfl (VRep.mono (hl1.trans hl2) h0) Tryd.underlying145 rfl ?_)
    refine lw_op rfl rfl rfl (ow_lss rfl rfl rfl fun bb1 hbb1 => ?_)
    refine lw_nil ?_
    refine ew_then ?_
    replace hb2 := cond_some hb2
    rcases hb2 with ⟨hc1, hb2⟩ | ⟨hc1, hb2⟩
    · obtain rfl := hbb1.trans hc1
      refine cw_true rfl ?_
      refine cw_skip ?_
      refine ew_then ?_
      refine cw_seq ?_
      refine cw_block ?_
      refine cw_region ?_
      refine lw_op rfl rfl rfl (ow_move rfl rfl ?_)
      refine lw_op rfl rfl rfl (ow_move rfl rfl ?_)
      refine lw_op rfl rfl rfl (ow_move rfl rfl ?_)
      refine lw_op rfl rfl rfl (ow_move rfl rfl ?_)
      replace hb2 := bind_some hb2
      obtain ⟨x1, hx1, hb2⟩ := hb2
      refine lw_op rfl rfl rfl (ow_indexSlice (R := RSpan) rfl rfl rfl (VRep.mono (hl1.trans hl2) h0) Tryd.underlying145 (Tryd.sizeOf194 _) hx1 fun p1 hp1 => ?_)
      refine lw_op rfl rfl rfl (ow_load (R := RSpan) rfl rfl hp1 (Tryd.sizeOf194 _) (Tryd.isAgg194 _) fun v4 hv4 => ?_)
      replace hb2 := bind_some hb2
      obtain ⟨x2, hx2, hb2⟩ := hb2
      refine lw_op rfl rfl rfl (ow_call rfl rfl Tryd.call145 (w_laws_toSpan (hG.mono (hl1.trans hl2)) hC2.old hv4 hx2) fun v5 w3 hv5 => ?_)
      obtain ⟨hv5, hb3⟩ := hv5
      have hl3 := Le.no M2 hb3
      have hC3 := hC2.no hb3
      have hr2 := hw1.no hb3
      replace hb2 := bind_some hb2
      obtain ⟨x3, hx3, hb2⟩ := hb2
      refine lw_op rfl rfl rfl (ow_indexRow (R := RSpan) rfl rfl rfl hr2 Tryd.underlying93 (Tryd.sizeOf140 _) hx3 ?_)
      refine lw_op0 rfl rfl (ow_storeElRow (X := No) (R := RSpan) (S := RSpan) rfl rfl rfl rfl hr2 (orow_blk hr2 hx3) hx3 (FldSet.whole RSpan) (Tryd.sizeOf140 _) hv5 (Nat.le_refl _) hC3 fun w4 ho1 hb4 hl4 hC4 => ?_)
      refine lw_nil ?_
      refine ew_blockN ?_
      refine ew_then ?_
      refine cw_region ?_
      refine lw_op rfl rfl rfl (ow_move rfl rfl ?_)
      refine lw_op rfl rfl rfl (ow_add rfl rfl rfl ?_)
      refine lw_op rfl rfl rfl (ow_assign rfl rfl ?_)
      refine lw_nil ?_
      refine ew_nxt ((W (k1 + 1)), (List.set y1 (k1 : Int).toNat x2)) hb2 fun a ha => ⟨M2, ?_, ((hl2.trans hl3).trans hl4), hC4, ho1⟩
      exact ha.sub ⟨rfl, rfl, rfl, trivial⟩
    · obtain rfl := hbb1.trans hc1
      refine cw_false rfl ?_
      refine cw_exit ?_
      refine ew_thenX ?_
      refine ew_thenX ?_
      refine ew_blockX ?_
      refine ew_brk (k1, y1) hb2 fun a ha => ⟨M2, ?_, hl2, hC2, hw1⟩
      exact ha.sub ⟨rfl, rfl, rfl, trivial⟩
  · rintro ⟨k2, y2⟩ a w5 hlr2 ⟨M3, hF2, hl5, hC5, hw2⟩
    subst hlr2
    refine ew_at (E := [(0, v0p), (3, v1), (4, (.int .i64 k2))]) hF2 ?_
    refine ew_then ?_
    refine cw_seq ?_
    refine cw_region ?_
    refine lw_op rfl rfl rfl (ow_move rfl rfl ?_)
    refine lw_op rfl rfl rfl (ow_assign rfl rfl ?_)
    refine lw_nil ?_
    refine ew_then ?_
    refine cw_ret ?_
    obtain rfl := Option.some.inj h
    exact ew_ret (res1 rfl (.tmp rfl)) ⟨_, rfl, (hw2.freezeBack hC5 hO), hC5.bx⟩

theorem w_laws_toSpanSS {w : World} {M : Nat → Prop} (hG : ARep (RArr 4 RShape) w M shapes ⟨0, 0, none⟩) (hO : ∀ b, M b → b < w.heap.size) {v0p : Value} {a_a : List (List Span)} (h0 : VRep (RSlice (RSlice RSpan)) w M a_a v0p) {r : (List (List Span))} (h : F.laws_toSpanSS a_a = some r) :
    Calls Tryd.prog 63 [v0p].toArray w fun e w' => ∃ v, e = .returned v ∧ VRep (RSlice (RSlice RSpan)) w' M r v ∧ BX No w w' := by
  obtain ⟨i93, hi93, hz93, hs93, hy93⟩ := info93
  have hC : Cx No w M w M := Cx.start hO (fun _ e => e.elim)
  refine walk (N := 23) Tryd.func63 rfl Tryd.ntmps63 rfl ?_
  refine cw_seq ?_
  refine cw_region ?_
  refine lw_op rfl rfl rfl (ow_assign rfl rfl ?_)
  refine lw_nil ?_
  refine ew_then ?_
  refine cw_seq ?_
  refine cw_region ?_
  refine lw_op rfl rfl rfl (ow_move rfl rfl ?_)
  refine lw_op rfl rfl rfl (ow_len rfl rfl h0 Tryd.underlying22 rfl ?_)
  replace h := bind_some h
  obtain ⟨mk1, hmk1, h⟩ := h
  refine lw_op rfl rfl rfl (ow_make (R := (RSlice RSpan)) rfl rfl rfl Tryd.underlying27 hi93 hz93 hs93 hy93 rfl rfl vslice_nil hmk1 hC fun v1 w1 M1 hr1 hb1 hl1 hC1 hM1 hat1 => ?_)
  refine lw_op rfl rfl rfl (ow_assign rfl rfl ?_)
  refine lw_nil ?_
  refine ew_then ?_
  refine cw_seq ?_
  refine cw_seq ?_
  refine cw_region ?_
  refine lw_op rfl rfl rfl (ow_assign rfl rfl ?_)
  refine lw_nil ?_
  refine ew_then ?_
  replace h := bind_some h
  obtain ⟨lr1, hlr1, h⟩ := h
  refine cw_for hlr1 (fun s a w' => ∃ (M' : Nat → Prop), Fits 23 [(0, v0p), (3, v1), (4, (.int .i64 s.1))] a ∧ Le w1 M1 w' M' ∧ Cx No w M w' M' ∧ OwnRow (RSlice RSpan) w.heap.size 93 w' M' s.2 v1) ?_ ?_ ?_
  · intro a ha
    exact ⟨M1, ha.sub ⟨rfl, rfl, rfl, trivial⟩, Le.refl _ _, hC1, hr1⟩
  · rintro ⟨k1, y1⟩ a w2 sr1 ⟨M2, hF1, hl2, hC2, hw1⟩ hb2 hR1
    refine cw_at (E := [(0, v0p), (3, v1), (4, (.int .i64 k1))]) hF1 ?_
    refine cw_seq ?_
    refine cw_seq ?_
    refine cw_region ?_
    refine lw_op rfl rfl rfl (ow_move rfl rfl ?_)
    refine lw_op rfl rfl rfl (ow_move rfl rfl ?_)
    refine lw_op rfl rfl rfl (ow_len rfl rfl (VRep.mono (hl1.trans hl2) h0) Tryd.underlying22 rfl ?_)
    refine lw_op rfl rfl rfl (ow_lss rfl rfl rfl fun bb1 hbb1 => ?_)
    refine lw_nil ?_
    refine ew_then ?_
    replace hb2 := cond_some hb2
    rcases hb2 with ⟨hc1, hb2⟩ | ⟨hc1, hb2⟩
    · obtain rfl := hbb1.trans hc1
      refine cw_true rfl ?_
      refine cw_skip ?_
      refine ew_then ?_
      refine cw_seq ?_
      refine cw_block ?_
      refine cw_region ?_
      refine lw_op rfl rfl rfl (ow_move rfl rfl ?_)
      refine lw_op rfl rfl rfl (ow_move rfl rfl ?_)
      refine lw_op rfl rfl rfl (ow_move rfl rfl ?_)
      refine lw_op rfl rfl rfl (ow_move rfl rfl ?_)
      replace hb2 := bind_some hb2
      obtain ⟨x1, hx1, hb2⟩ := hb2
      refine lw_op rfl rfl rfl (ow_indexSlice (R := (RSlice RSpan)) rfl rfl rfl (VRep.mono (hl1.trans hl2) h0) Tryd.underlying22 (Tryd.sizeOf145 _) hx1 fun p1 hp1 => ?_)
      refine lw_op rfl rfl rfl (ow_load (R := (RSlice RSpan)) rfl rfl hp1 (Tryd.sizeOf145 _) (Tryd.isAgg145 _) fun v4 hv4 => ?_)
      replace hb2 := bind_some hb2
      obtain ⟨x2, hx2, hb2⟩ := hb2
      refine lw_op rfl rfl rfl (ow_call rfl rfl Tryd.call113 (w_laws_toSpanS (hG.mono (hl1.trans hl2)) hC2.old hv4 hx2) fun v5 w3 hv5 => ?_)
      obtain ⟨hv5, hb3⟩ := hv5
      have hl3 := Le.no M2 hb3
      have hC3 := hC2.no hb3
      have hr2 := hw1.no hb3
      replace hb2 := bind_some hb2
      obtain ⟨x3, hx3, hb2⟩ := hb2
      refine lw_op rfl rfl rfl (ow_indexRow (R := (RSlice RSpan)) rfl rfl rfl hr2 Tryd.underlying27 (Tryd.sizeOf93 _) hx3 ?_)
      refine lw_op0 rfl rfl (ow_storeElRow (X := No) (R := (RSlice RSpan)) (S := (RSlice RSpan)) rfl rfl rfl rfl hr2 (orow_blk hr2 hx3) hx3 (FldSet.whole (RSlice RSpan)) (Tryd.sizeOf93 _) hv5 (Nat.le_refl _) hC3 fun w4 ho1 hb4 hl4 hC4 => ?_)
      refine lw_nil ?_
      refine ew_blockN ?_
      refine ew_then ?_
      refine cw_region ?_
      refine lw_op rfl rfl rfl (ow_move rfl rfl ?_)
      refine lw_op rfl rfl rfl (ow_add rfl rfl rfl ?_)
      refine lw_op rfl rfl rfl (ow_assign rfl rfl ?_)
      refine lw_nil ?_
      refine ew_nxt ((W (k1 + 1)), (List.set y1 (k1 : Int).toNat x2)) hb2 fun a ha => ⟨M2, ?_, ((hl2.trans hl3).trans hl4), hC4, ho1⟩
      exact ha.sub ⟨rfl, rfl, rfl, trivial⟩
    · obtain rfl := hbb1.trans hc1
      refine cw_false rfl ?_
      refine cw_exit ?_
      refine ew_thenX ?_
      refine ew_thenX ?_
      refine ew_blockX ?_
      refine ew_brk (k1, y1) hb2 fun a ha => ⟨M2, ?_, hl2, hC2, hw1⟩
      exact ha.sub ⟨rfl, rfl, rfl, trivial⟩
  · rintro ⟨k2, y2⟩ a w5 hlr2 ⟨M3, hF2, hl5, hC5, hw2⟩
    subst hlr2
    refine ew_at (E := [(0, v0p), (3, v1), (4, (.int .i64 k2))]) hF2 ?_
    refine ew_then ?_
    refine cw_seq ?_
    refine cw_region ?_
    refine lw_op rfl rfl rfl (ow_move rfl rfl ?_)
    refine lw_op rfl rfl rfl (ow_assign rfl rfl ?_)
    refine lw_nil ?_
    refine ew_then ?_
    refine cw_ret ?_
    obtain rfl := Option.some.inj h
    exact ew_ret (res1 rfl (.tmp rfl)) ⟨_, rfl, (hw2.freezeBack hC5 hO), hC5.bx⟩

theorem w_laws_toBox {w : World} {M : Nat → Prop} (hG : ARep (RArr 4 RShape) w M shapes ⟨0, 0, none⟩) (hO : ∀ b, M b → b < w.heap.size) {v0p : Value} {a_a : Box} (h0 : VRep RBox w M a_a v0p) {r : Box} (h : F.laws_toBox a_a = some r) :
    Calls Tryd.prog 17 [v0p].toArray w fun e w' => ∃ v, e = .returned v ∧ VRep RBox w' M r v ∧ BX No w w' := by
  have hC : Cx No w M w M := Cx.start hO (fun _ e => e.elim)
  refine walk (N := 9) Tryd.func17 rfl Tryd.ntmps17 rfl ?_
  refine cw_seq ?_
  refine cw_region ?_
  refine lw_op rfl rfl rfl (ow_box (R := RBox) rfl rfl h0 hC fun p1 w1 hp1 hb1 hl1 hC1 => ?_)
  refine lw_op rfl rfl rfl (ow_alloc rfl (Tryd.zeroValue29 _) hC1 fun g1 w2 hg1 hg2 ho1 hb2 hl2 hC2 => ?_)
  have hm1 : (Add g1 M) g1 := .inl rfl
  refine lw_nil ?_
  refine ew_then ?_
  refine cw_seq ?_
  refine cw_region ?_
  refine lw_op rfl rfl rfl (ow_alloc rfl (Tryd.zeroValue29 _) hC2 fun g2 w3 hg3 hg4 ho2 hb3 hl3 hC3 => ?_)
  have hn1 := Nat.ne_of_lt (Nat.lt_of_lt_of_le ho1.lt hg3)
  have ho3 := ho1.no hb3
  have hm2 : (Add g2 (Add g1 M)) g1 := .inr hm1
  have hm3 : (Add g2 (Add g1 M)) g2 := .inl rfl
  refine lw_nil ?_
  refine ew_then ?_
  refine cw_seq ?_
  refine cw_region ?_
  refine lw_op rfl rfl rfl (ow_fieldAddr rfl rfl Tryd.underlying24 rfl (Tryd.sizeOf22 _) ?_)
  refine lw_op rfl rfl rfl (ow_load (R := (RSlice (RSlice RSpan))) rfl rfl (ARep.mono (hl2.trans hl3) (hp1.fld fld_Box_Sides)) (Tryd.sizeOf22 _) (Tryd.isAgg22 _) fun v1 hv1 => ?_)
  replace h := bind_some h
  obtain ⟨x1, hx1, h⟩ := h
  refine lw_op rfl rfl rfl (ow_call rfl rfl Tryd.call63 (w_laws_toSpanSS (hG.mono ((hl1.trans hl2).trans hl3)) hC3.old hv1 hx1) fun v2 w4 hv2 => ?_)
  obtain ⟨hv2, hb4⟩ := hv2
  have hl4 := Le.no (Add g2 (Add g1 M)) hb4
  have hC4 := hC3.no hb4
  have ho4 := ho3.no hb4
  have ho5 := ho2.no hb4
  refine lw_op rfl rfl rfl (ow_fieldAddr rfl rfl Tryd.underlying29 rfl (Tryd.sizeOf27 _) ?_)
  obtain ⟨A1, c1, rfl, -⟩ := vslice_shape hv2
  refine lw_op0 rfl rfl (ow_store (X := No) (us := [(.slice A1 x1.length c1)]) (cs' := #[(.slice A1 x1.length c1)]) rfl rfl rfl rfl ho5 (Tryd.sizeOf27 _) rfl rfl rfl rfl hm3 (.inl hg4) rfl hC4 fun w5 ho6 hb5 hl5 hC5 => ?_)
  have ho7 := ho4.go hb5 (fun e => hn1 e)
  refine lw_nil ?_
  refine ew_then ?_
  refine cw_seq ?_
  refine cw_region ?_
  refine lw_op rfl rfl rfl (ow_loadOwnA rfl rfl rfl ho6 (Tryd.isAgg29 _) (Tryd.sizeOf29 _) rfl ?_)
  have hw1 : VRep RBox w5 (Add g2 (Add g1 M)) ({ Sides := x1 } : Box) (.agg #[(.slice A1 x1.length c1)]) := shut_Box (VRep.mono hl5 hv2)
  refine lw_op0 rfl rfl (ow_store (X := No) (us := [(.slice A1 x1.length c1)]) (cs' := #[(.slice A1 x1.length c1)]) rfl rfl rfl rfl ho7 (Tryd.sizeOf29 _) rfl rfl rfl rfl hm2 (.inl hg2) rfl hC5 fun w6 ho8 hb6 hl6 hC6 => ?_)
  have ho9 := ho6.go hb6 (fun e => hn1 e.symm)
  refine lw_nil ?_
  refine ew_then ?_
  refine cw_ret ?_
  have hw2 : VRep RBox w6 (Add g2 (Add g1 M)) ({ Sides := x1 } : Box) (.agg #[(.slice A1 x1.length c1)]) := shut_Box (VRep.mono (hl5.trans hl6) hv2)
  obtain rfl := Option.some.inj h
  exact ew_ret (res1 rfl (.cell rfl (own_loadVarA ho8 (Tryd.isAgg29 _) (Tryd.sizeOf29 _) rfl))) ⟨_, rfl, (hw2.mono hC6.back), hC6.bx⟩

theorem w_impl_topValid {w : World} {M : Nat → Prop} (_hG : ARep (RArr 4 RShape) w M shapes ⟨0, 0, none⟩) (hO : ∀ b, M b → b < w.heap.size) {a_top : Int} {r : Bool} (h : F.impl_topValid a_top = some r) :
    Calls Tryd.prog 144 [(.int .i64 a_top)].toArray w fun e w' => ∃ v, e = .returned v ∧ VRep RBool w' M r v ∧ BX No w w' := by
  have hC : Cx No w M w M := Cx.start hO (fun _ e => e.elim)
  clear _hG
  refine walk (N := 9) Tryd.func144 rfl Tryd.ntmps144 rfl ?_
  refine cw_seq ?_
  refine cw_region ?_
  refine lw_op rfl rfl rfl (ow_assign rfl rfl ?_)
  refine lw_nil ?_
  refine ew_then ?_
  refine cw_seq ?_
  refine cw_region ?_
  refine lw_op rfl rfl rfl (ow_move rfl rfl ?_)
  refine lw_op rfl rfl rfl (ow_geq rfl rfl rfl fun bb1 hbb1 => ?_)
  refine lw_op rfl rfl rfl (ow_move rfl rfl ?_)
  replace h := cond_some h
  rcases h with ⟨hc1, h⟩ | ⟨hc1, h⟩
  · obtain rfl := hbb1.trans hc1
    refine lw_on rfl rfl rfl rfl rfl rfl (ow_move rfl rfl ?_)
    refine lw_on rfl rfl rfl rfl rfl rfl (ow_leq rfl rfl rfl fun bb2 hbb2 => ?_)
    refine lw_op rfl rfl rfl (ow_pickT rfl rfl rfl ?_)
    refine lw_op rfl rfl rfl (ow_assign rfl rfl ?_)
    refine lw_nil ?_
    refine ew_then ?_
    refine cw_ret ?_
    obtain rfl := Option.some.inj h
    exact ew_ret (res1 rfl (.tmp rfl)) ⟨_, rfl, ((vbool_of hbb2)), hC.bx⟩
  · obtain rfl := hbb1.trans hc1
    refine lw_off rfl rfl rfl rfl rfl rfl ?_
    refine lw_off rfl rfl rfl rfl rfl rfl ?_
    refine lw_op rfl rfl rfl (ow_pickF rfl rfl rfl ?_)
    refine lw_op rfl rfl rfl (ow_assign rfl rfl ?_)
    refine lw_nil ?_
    refine ew_then ?_
    refine cw_ret ?_
    obtain rfl := Option.some.inj h
    exact ew_ret (res1 rfl (.tmp rfl)) ⟨_, rfl, ((vbool _)), hC.bx⟩

theorem w_impl_SpansValid {w : World} {M : Nat → Prop} (hG : ARep (RArr 4 RShape) w M shapes ⟨0, 0, none⟩) (hO : ∀ b, M b → b < w.heap.size) {v0p : Value} {a_list : List Span} (h0 : VRep (RSlice RSpan) w M a_list v0p) {a_top : Int} {r : Bool} (h : F.impl_SpansValid a_list a_top = some r) :
    Calls Tryd.prog 106 [v0p, (.int .i64 a_top)].toArray w fun e w' => ∃ v, e = .returned v ∧ VRep RBool w' M r v ∧ BX No w w' := by
  have hC : Cx No w M w M := Cx.start hO (fun _ e => e.elim)
  refine walk (N := 43) Tryd.func106 rfl Tryd.ntmps106 rfl ?_
  refine cw_seq ?_
  refine cw_region ?_
  refine lw_op rfl rfl rfl (ow_assign rfl rfl ?_)
  refine lw_nil ?_
  refine ew_then ?_
  refine cw_seq ?_
  refine cw_seq ?_
  refine cw_region ?_
  refine lw_op rfl rfl rfl (ow_move rfl rfl ?_)
  replace h := bind_some h
  obtain ⟨x1, hx1, h⟩ := h
  refine lw_op rfl rfl rfl (ow_call rfl rfl Tryd.call144 (w_impl_topValid hG hC.old hx1) fun v1 w1 hv1 => ?_)
  obtain ⟨hv1, hb1⟩ := hv1
  have hl1 := Le.no M hb1
  have hC1 := hC.no hb1
  obtain rfl := vbool_eq hv1
  refine lw_op rfl rfl rfl (ow_not rfl rfl ?_)
  refine lw_op rfl rfl rfl (ow_move rfl rfl ?_)
  replace h := cond_some h
  rcases h with ⟨hc1, h⟩ | ⟨hc1, h⟩
  · subst hc1
    refine lw_on rfl rfl rfl rfl rfl rfl (ow_move rfl rfl ?_)
    refine lw_on rfl rfl rfl rfl rfl rfl (ow_len rfl rfl (VRep.mono hl1 h0) Tryd.underlying93 rfl ?_)
    refine lw_on rfl rfl rfl rfl rfl rfl (ow_gtr rfl rfl rfl fun bb1 hbb1 => ?_)
    refine lw_op rfl rfl rfl (ow_pickF rfl rfl rfl ?_)
    refine lw_nil ?_
    refine ew_then ?_
    replace h := cond_some h
    rcases h with ⟨hc2, h⟩ | ⟨hc2, h⟩
    · obtain rfl := hbb1.trans hc2
      refine cw_true rfl ?_
      refine cw_seq ?_
      refine cw_region ?_
      refine lw_op rfl rfl rfl (ow_assign rfl rfl ?_)
      refine lw_nil ?_
      refine ew_then ?_
      refine cw_ret ?_
      refine ew_thenR ?_
      obtain rfl := Option.some.inj h
      exact ew_ret (res1 rfl (.tmp rfl)) ⟨_, rfl, ((vbool _)), hC1.bx⟩
    · obtain rfl := hbb1.trans hc2
      refine cw_false rfl ?_
      refine cw_skip ?_
      refine ew_then ?_
      refine cw_seq ?_
      refine cw_region ?_
      refine lw_op rfl rfl rfl (ow_assign rfl rfl ?_)
      refine lw_nil ?_
      refine ew_then ?_
      refine cw_seq ?_
      refine cw_seq ?_
      refine cw_region ?_
      refine lw_op rfl rfl rfl (ow_move rfl rfl ?_)
      refine lw_op rfl rfl rfl (ow_len rfl rfl (VRep.mono hl1 h0) Tryd.underlying93 rfl ?_)
      refine lw_op rfl rfl rfl (ow_move rfl rfl ?_)
      refine lw_nil ?_
      refine ew_then ?_
      replace h := bind_some h
      obtain ⟨lr1, hlr1, h⟩ := h
      refine cw_for hlr1 (fun s a w' => ∃ (M' : Nat → Prop), Fits 43 [(1, (.int .i64 a_top)), (5, (.int .i64 s.1)), (16, v0p), (17, (.int .i64 (a_list.length : Int))), (18, (.int .i64 s.2))] a ∧ Le w1 M w' M' ∧ Cx No w M w' M') ?_ ?_ ?_
      · intro a ha
        exact ⟨M, ha.sub ⟨rfl, rfl, rfl, rfl, rfl, trivial⟩, Le.refl _ _, hC1⟩
      · rintro ⟨k1, k2⟩ a w2 sr1 ⟨M1, hF1, hl2, hC2⟩ hb2 hR1
        refine cw_at (E := [(1, (.int .i64 a_top)), (5, (.int .i64 k1)), (16, v0p), (17, (.int .i64 (a_list.length : Int))), (18, (.int .i64 k2))]) hF1 ?_
        refine cw_seq ?_
        refine cw_region ?_
        refine lw_op rfl rfl rfl (ow_lss rfl rfl rfl fun bb2 hbb2 => ?_)
        refine lw_nil ?_
        refine ew_then ?_
        refine cw_seq ?_
        replace hb2 := cond_some hb2
        rcases hb2 with ⟨hc3, hb2⟩ | ⟨hc3, hb2⟩
        · obtain rfl := hbb2.trans hc3
          refine cw_true rfl ?_
          refine cw_skip ?_
          refine ew_then ?_
          refine cw_seq ?_
          refine cw_block ?_
          refine cw_seq ?_
          refine cw_region ?_
          replace hb2 := bind_some hb2
          obtain ⟨x2, hx2, hb2⟩ := hb2
          refine lw_op rfl rfl rfl (ow_indexSlice (R := RSpan) rfl rfl rfl (VRep.mono (hl1.trans hl2) h0) Tryd.underlying93 (Tryd.sizeOf140 _) hx2 fun p1 hp1 => ?_)
          refine lw_op rfl rfl rfl (ow_load (R := RSpan) rfl rfl hp1 (Tryd.sizeOf140 _) (Tryd.isAgg140 _) fun v4 hv4 => ?_)
          refine lw_allocStore (R := RSpan) rfl rfl rfl rfl rfl rfl rfl Tryd.zeroValue140 Tryd.sizeOf140 rfl rfl rfl (by simp) hv4 hC2 fun p2 w3 hp2 hb3 hl3 hC3 => ?_
          refine lw_nil ?_
          refine ew_then ?_
          refine cw_seq ?_
          refine cw_seq ?_
          refine cw_region ?_
          refine lw_op rfl rfl rfl (ow_fieldAddr rfl rfl Tryd.underlying140 rfl (Tryd.sizeOf3 _) ?_)
          refine lw_op rfl rfl rfl (ow_load (R := RInt) rfl rfl (hp2.fld fld_Span_Lo) (Tryd.sizeOf3 _) (Tryd.isAgg3 _) fun v5 hv5 => ?_)
          obtain rfl := vint_eq hv5
          refine lw_op rfl rfl rfl (ow_move rfl rfl ?_)
          refine lw_op rfl rfl rfl (ow_add rfl rfl rfl ?_)
          refine lw_op rfl rfl rfl (ow_leq rfl rfl rfl fun bb3 hbb3 => ?_)
          refine lw_op rfl rfl rfl (ow_move rfl rfl ?_)
          replace hb2 := cond_some hb2
          rcases hb2 with ⟨hc4, hb2⟩ | ⟨hc4, hb2⟩
          · obtain rfl := hbb3.trans hc4
            refine lw_off rfl rfl rfl rfl rfl rfl ?_
            refine lw_off rfl rfl rfl rfl rfl rfl ?_
            refine lw_off rfl rfl rfl rfl rfl rfl ?_
            refine lw_off rfl rfl rfl rfl rfl rfl ?_
            refine lw_off rfl rfl rfl rfl rfl rfl ?_
            refine lw_op rfl rfl rfl (ow_pickT rfl rfl rfl ?_)
            refine lw_op rfl rfl rfl (ow_move rfl rfl ?_)
            refine lw_off rfl rfl rfl rfl rfl rfl ?_
            refine lw_off rfl rfl rfl rfl rfl rfl ?_
            refine lw_off rfl rfl rfl rfl rfl rfl ?_
            refine lw_off rfl rfl rfl rfl rfl rfl ?_
            refine lw_op rfl rfl rfl (ow_pickT rfl rfl rfl ?_)
            refine lw_nil ?_
            refine ew_then ?_
            refine cw_true rfl ?_
            refine cw_seq ?_
            refine cw_region ?_
            refine lw_op rfl rfl rfl (ow_assign rfl rfl ?_)
            refine lw_nil ?_
            refine ew_then ?_
            refine cw_ret ?_
            refine ew_thenR ?_
            refine ew_blockR ?_
            refine ew_thenR ?_
            refine ew_thenR ?_
            refine ew_blockR ?_
            refine ew_brkR ?_
            refine ew_thenR ?_
            have e1 := hR1 _ (Option.some.inj hb2).symm
            subst e1
            obtain rfl := Option.some.inj h
            exact ew_ret (res1 rfl (.tmp rfl)) ⟨_, rfl, ((vbool _)), hC3.bx⟩
          · obtain rfl := hbb3.trans hc4
            refine lw_on rfl rfl rfl rfl rfl rfl (ow_fieldAddr rfl rfl Tryd.underlying140 rfl (Tryd.sizeOf3 _) ?_)
            refine lw_on rfl rfl rfl rfl rfl rfl (ow_load (R := RInt) rfl rfl (hp2.fld fld_Span_Lo) (Tryd.sizeOf3 _) (Tryd.isAgg3 _) fun v6 hv6 => ?_)
            obtain rfl := vint_eq hv6
            refine lw_on rfl rfl rfl rfl rfl rfl (ow_fieldAddr rfl rfl Tryd.underlying140 rfl (Tryd.sizeOf3 _) ?_)
            refine lw_on rfl rfl rfl rfl rfl rfl (ow_load (R := RInt) rfl rfl (hp2.fld fld_Span_Hi) (Tryd.sizeOf3 _) (Tryd.isAgg3 _) fun v7 hv7 => ?_)
            obtain rfl := vint_eq hv7
            refine lw_on rfl rfl rfl rfl rfl rfl (ow_gtr rfl rfl rfl fun bb4 hbb4 => ?_)
            refine lw_op rfl rfl rfl (ow_pickF rfl rfl rfl ?_)
            refine lw_op rfl rfl rfl (ow_move rfl rfl ?_)
            replace hb2 := cond_some hb2
            rcases hb2 with ⟨hc5, hb2⟩ | ⟨hc5, hb2⟩
            · obtain rfl := hbb4.trans hc5
              refine lw_off rfl rfl rfl rfl rfl rfl ?_
              refine lw_off rfl rfl rfl rfl rfl rfl ?_
              refine lw_off rfl rfl rfl rfl rfl rfl ?_
              refine lw_off rfl rfl rfl rfl rfl rfl ?_
              refine lw_op rfl rfl rfl (ow_pickT rfl rfl rfl ?_)
              refine lw_nil ?_
              refine ew_then ?_
              refine cw_true rfl ?_
              refine cw_seq ?_
              refine cw_region ?_
              refine lw_op rfl rfl rfl (ow_assign rfl rfl ?_)
              refine lw_nil ?_
              refine ew_then ?_
              refine cw_ret ?_
              refine ew_thenR ?_
              refine ew_blockR ?_
              refine ew_thenR ?_
              refine ew_thenR ?_
              refine ew_blockR ?_
              refine ew_brkR ?_
              refine ew_thenR ?_
              have e2 := hR1 _ (Option.some.inj hb2).symm
              subst e2
              obtain rfl := Option.some.inj h
              exact ew_ret (res1 rfl (.tmp rfl)) ⟨_, rfl, ((vbool _)), hC3.bx⟩
            · obtain rfl := hbb4.trans hc5
              refine lw_on rfl rfl rfl rfl rfl rfl (ow_fieldAddr rfl rfl Tryd.underlying140 rfl (Tryd.sizeOf3 _) ?_)
              refine lw_on rfl rfl rfl rfl rfl rfl (ow_load (R := RInt) rfl rfl (hp2.fld fld_Span_Hi) (Tryd.sizeOf3 _) (Tryd.isAgg3 _) fun v8 hv8 => ?_)
              obtain rfl := vint_eq hv8
              refine lw_on rfl rfl rfl rfl rfl rfl (ow_move rfl rfl ?_)
              refine lw_on rfl rfl rfl rfl rfl rfl (ow_gtr rfl rfl rfl fun bb5 hbb5 => ?_)
              refine lw_op rfl rfl rfl (ow_pickF rfl rfl rfl ?_)
              refine lw_nil ?_
              refine ew_then ?_
              replace hb2 := cond_some hb2
              rcases hb2 with ⟨hc6, hb2⟩ | ⟨hc6, hb2⟩
              · obtain rfl := hbb5.trans hc6
                refine cw_true rfl ?_
                refine cw_seq ?_
                refine cw_region ?_
                refine lw_op rfl rfl rfl (ow_assign rfl rfl ?_)
                refine lw_nil ?_
                refine ew_then ?_
                refine cw_ret ?_
                refine ew_thenR ?_
                refine ew_blockR ?_
                refine ew_thenR ?_
                refine ew_thenR ?_
                refine ew_blockR ?_
                refine ew_brkR ?_
                refine ew_thenR ?_
                have e3 := hR1 _ (Option.some.inj hb2).symm
                subst e3
                obtain rfl := Option.some.inj h
                exact ew_ret (res1 rfl (.tmp rfl)) ⟨_, rfl, ((vbool _)), hC3.bx⟩
              · obtain rfl := hbb5.trans hc6
                refine cw_false rfl ?_
                refine cw_skip ?_
                refine ew_then ?_
                refine cw_region ?_
                refine lw_op rfl rfl rfl (ow_fieldAddr rfl rfl Tryd.underlying140 rfl (Tryd.sizeOf3 _) ?_)
                refine lw_op rfl rfl rfl (ow_load (R := RInt) rfl rfl (hp2.fld fld_Span_Hi) (Tryd.sizeOf3 _) (Tryd.isAgg3 _) fun v9 hv9 => ?_)
                obtain rfl := vint_eq hv9
                refine lw_op rfl rfl rfl (ow_assign rfl rfl ?_)
                refine lw_nil ?_
                refine ew_blockN ?_
                refine ew_then ?_
                refine cw_region ?_
                refine lw_op rfl rfl rfl (ow_add rfl rfl rfl ?_)
                refine lw_op rfl rfl rfl (ow_move rfl rfl ?_)
                refine lw_nil ?_
                refine ew_nxt (x2.Hi, (W (k2 + 1))) hb2 fun a ha => ⟨M1, ?_, (hl2.trans hl3), hC3⟩
                exact ha.sub ⟨rfl, rfl, rfl, rfl, rfl, trivial⟩
        · obtain rfl := hbb2.trans hc3
          refine cw_false rfl ?_
          refine cw_exit ?_
          refine ew_thenX ?_
          refine ew_thenX ?_
          refine ew_blockX ?_
          refine ew_brk (k1, k2) hb2 fun a ha => ⟨M1, ?_, hl2, hC2⟩
          exact ha.sub ⟨rfl, rfl, rfl, rfl, rfl, trivial⟩
      · rintro ⟨k3, k4⟩ a w4 hlr2 ⟨M2, hF2, hl4, hC4⟩
        subst hlr2
        refine ew_at (E := [(1, (.int .i64 a_top)), (5, (.int .i64 k3)), (16, v0p), (17, (.int .i64 (a_list.length : Int))), (18, (.int .i64 k4))]) hF2 ?_
        refine ew_then ?_
        refine cw_seq ?_
        refine cw_region ?_
        refine lw_op rfl rfl rfl (ow_assign rfl rfl ?_)
        refine lw_nil ?_
        refine ew_then ?_
        refine cw_ret ?_
        obtain rfl := Option.some.inj h
        exact ew_ret (res1 rfl (.tmp rfl)) ⟨_, rfl, ((vbool _)), hC4.bx⟩
  · subst hc1
    refine lw_off rfl rfl rfl rfl rfl rfl ?_
    refine lw_off rfl rfl rfl rfl rfl rfl ?_
    refine lw_off rfl rfl rfl rfl rfl rfl ?_
    refine lw_op rfl rfl rfl (ow_pickT rfl rfl rfl ?_)
    refine lw_nil ?_
    refine ew_then ?_
    refine cw_true rfl ?_
    refine cw_seq ?_
    refine cw_region ?_
    refine lw_op rfl rfl rfl (ow_assign rfl rfl ?_)
    refine lw_nil ?_
    refine ew_then ?_
    refine cw_ret ?_
    refine ew_thenR ?_
    obtain rfl := Option.some.inj h
    exact ew_ret (res1 rfl (.tmp rfl)) ⟨_, rfl, ((vbool _)), hC1.bx⟩

theorem w_impl_FieldTop {w : World} {M : Nat → Prop} (hG : ARep (RArr 4 RShape) w M shapes ⟨0, 0, none⟩) (hO : ∀ b, M b → b < w.heap.size) {a_n : Int} {r : Int} (h : F.impl_FieldTop a_n = some r) :
    Calls Tryd.prog 107 [(.int .i64 a_n)].toArray w fun e w' => ∃ v, e = .returned v ∧ VRep RInt w' M r v ∧ BX No w w' := by
  have hC : Cx No w M w M := Cx.start hO (fun _ e => e.elim)
  refine walk (N := 13) Tryd.func107 rfl Tryd.ntmps107 rfl ?_
  refine cw_seq ?_
  refine cw_region ?_
  refine lw_op rfl rfl rfl (ow_assign rfl rfl ?_)
  refine lw_nil ?_
  refine ew_then ?_
  refine cw_seq ?_
  refine cw_seq ?_
  refine cw_region ?_
  refine lw_op rfl rfl rfl (ow_move rfl rfl ?_)
  refine lw_op rfl rfl rfl (ow_lss rfl rfl rfl fun bb1 hbb1 => ?_)
  refine lw_op rfl rfl rfl (ow_move rfl rfl ?_)
  replace h := cond_some h
  rcases h with ⟨hc1, h⟩ | ⟨hc1, h⟩
  · obtain rfl := hbb1.trans hc1
    refine lw_off rfl rfl rfl rfl rfl rfl ?_
    refine lw_off rfl rfl rfl rfl rfl rfl ?_
    refine lw_op rfl rfl rfl (ow_pickT rfl rfl rfl ?_)
    refine lw_nil ?_
    refine ew_then ?_
    refine cw_true rfl ?_
    refine cw_seq ?_
    refine cw_region ?_
    refine lw_op rfl rfl rfl (ow_assign rfl rfl ?_)
    refine lw_nil ?_
    refine ew_then ?_
    refine cw_ret ?_
    refine ew_thenR ?_
    obtain rfl := Option.some.inj h
    exact ew_ret (res1 rfl (.tmp rfl)) ⟨_, rfl, ((vint _)), hC.bx⟩
  · obtain rfl := hbb1.trans hc1
    refine lw_on rfl rfl rfl rfl rfl rfl (ow_move rfl rfl ?_)
    refine lw_on rfl rfl rfl rfl rfl rfl (ow_geq rfl rfl rfl fun bb2 hbb2 => ?_)
    refine lw_op rfl rfl rfl (ow_pickF rfl rfl rfl ?_)
    refine lw_nil ?_
    refine ew_then ?_
    replace h := cond_some h
    rcases h with ⟨hc2, h⟩ | ⟨hc2, h⟩
    · obtain rfl := hbb2.trans hc2
      refine cw_true rfl ?_
      refine cw_seq ?_
      refine cw_region ?_
      refine lw_op rfl rfl rfl (ow_assign rfl rfl ?_)
      refine lw_nil ?_
      refine ew_then ?_
      refine cw_ret ?_
      refine ew_thenR ?_
      obtain rfl := Option.some.inj h
      exact ew_ret (res1 rfl (.tmp rfl)) ⟨_, rfl, ((vint _)), hC.bx⟩
    · obtain rfl := hbb2.trans hc2
      refine cw_false rfl ?_
      refine cw_skip ?_
      refine ew_then ?_
      refine cw_seq ?_
      refine cw_region ?_
      refine lw_op rfl rfl rfl (ow_move rfl rfl ?_)
      replace h := bind_some h
      obtain ⟨x1, hx1, h⟩ := h
      refine lw_op rfl rfl rfl (ow_indexArr (R := RShape) rfl rfl rfl hG Tryd.underlying192 (Tryd.sizeOf191 _) hx1 fun p1 hp1 => ?_)
      refine lw_op rfl rfl rfl (ow_fieldAddr rfl rfl Tryd.underlying191 rfl (Tryd.sizeOf3 _) ?_)
      refine lw_op rfl rfl rfl (ow_load (R := RInt) rfl rfl (hp1.fld fld_Shape_top) (Tryd.sizeOf3 _) (Tryd.isAgg3 _) fun v1 hv1 => ?_)
      obtain rfl := vint_eq hv1
      refine lw_op rfl rfl rfl (ow_assign rfl rfl ?_)
      refine lw_nil ?_
      refine ew_then ?_
      refine cw_ret ?_
      obtain rfl := Option.some.inj h
      exact ew_ret (res1 rfl (.tmp rfl)) ⟨_, rfl, ((vint _)), hC.bx⟩

theorem w_impl_BoxValid {w : World} {M : Nat → Prop} (hG : ARep (RArr 4 RShape) w M shapes ⟨0, 0, none⟩) (hO : ∀ b, M b → b < w.heap.size) {v0p : Value} {a_b : Box} (h0 : VRep RBox w M a_b v0p) {r : Bool} (h : F.impl_BoxValid a_b = some r) :
    Calls Tryd.prog 56 [v0p].toArray w fun e w' => ∃ v, e = .returned v ∧ VRep RBool w' M r v ∧ BX No w w' := by
  have hC : Cx No w M w M := Cx.start hO (fun _ e => e.elim)
  refine walk (N := 23) Tryd.func56 rfl Tryd.ntmps56 rfl ?_
  refine cw_seq ?_
  refine cw_region ?_
  refine lw_op rfl rfl rfl (ow_box (R := RBox) rfl rfl h0 hC fun p1 w1 hp1 hb1 hl1 hC1 => ?_)
  refine lw_op rfl rfl rfl (ow_assign rfl rfl ?_)
  refine lw_nil ?_
  refine ew_then ?_
  refine cw_seq ?_
  refine cw_seq ?_
  refine cw_region ?_
  refine lw_op rfl rfl rfl (ow_fieldAddr rfl rfl Tryd.underlying29 rfl (Tryd.sizeOf27 _) ?_)
  refine lw_op rfl rfl rfl (ow_load (R := (RSlice (RSlice RSpan))) rfl rfl (hp1.fld fld_Box_Sides) (Tryd.sizeOf27 _) (Tryd.isAgg27 _) fun v1 hv1 => ?_)
  refine lw_op rfl rfl rfl (ow_len rfl rfl hv1 Tryd.underlying27 rfl ?_)
  refine lw_op rfl rfl rfl (ow_neqI rfl rfl rfl fun bb1 hbb1 => ?_)
  refine lw_nil ?_
  refine ew_then ?_
  replace h := cond_some h
  rcases h with ⟨hc1, h⟩ | ⟨hc1, h⟩
  · obtain rfl := hbb1.trans hc1
    refine cw_true rfl ?_
    refine cw_seq ?_
    refine cw_region ?_
    refine lw_op rfl rfl rfl (ow_assign rfl rfl ?_)
    refine lw_nil ?_
    refine ew_then ?_
    refine cw_ret ?_
    refine ew_thenR ?_
    obtain rfl := Option.some.inj h
    exact ew_ret (res1 rfl (.tmp rfl)) ⟨_, rfl, ((vbool _)), hC1.bx⟩
  · obtain rfl := hbb1.trans hc1
    refine cw_false rfl ?_
    refine cw_skip ?_
    refine ew_then ?_
    refine cw_seq ?_
    refine cw_seq ?_
    refine cw_region ?_
    refine lw_op rfl rfl rfl (ow_fieldAddr rfl rfl Tryd.underlying29 rfl (Tryd.sizeOf27 _) ?_)
    refine lw_op rfl rfl rfl (ow_load (R := (RSlice (RSlice RSpan))) rfl rfl (hp1.fld fld_Box_Sides) (Tryd.sizeOf27 _) (Tryd.isAgg27 _) fun v2 hv2 => ?_)
    refine lw_op rfl rfl rfl (ow_len rfl rfl hv2 Tryd.underlying27 rfl ?_)
    refine lw_op rfl rfl rfl (ow_move rfl rfl ?_)
    refine lw_nil ?_
    refine ew_then ?_
    replace h := bind_some h
    obtain ⟨lr1, hlr1, h⟩ := h
    refine cw_for hlr1 (fun s a w' => ∃ (M' : Nat → Prop), Fits 23 [(10, v2), (11, (.int .i64 (a_b.Sides.length : Int))), (12, (.int .i64 s))] a ∧ Le w1 M w' M' ∧ Cx No w M w' M') ?_ ?_ ?_
    · intro a ha
      exact ⟨M, ha.sub ⟨rfl, rfl, rfl, trivial⟩, Le.refl _ _, hC1⟩
    · rintro k1 a w2 sr1 ⟨M1, hF1, hl2, hC2⟩ hb2 hR1
      refine cw_at (E := [(10, v2), (11, (.int .i64 (a_b.Sides.length : Int))), (12, (.int .i64 k1))]) hF1 ?_
      refine cw_seq ?_
      refine cw_region ?_
      refine lw_op rfl rfl rfl (ow_lss rfl rfl rfl fun bb2 hbb2 => ?_)
      refine lw_nil ?_
      refine ew_then ?_
      refine cw_seq ?_
      replace hb2 := cond_some hb2
      rcases hb2 with ⟨hc2, hb2⟩ | ⟨hc2, hb2⟩
      · obtain rfl := hbb2.trans hc2
        refine cw_true rfl ?_
        refine cw_skip ?_
        refine ew_then ?_
        refine cw_seq ?_
        refine cw_block ?_
        refine cw_seq ?_
        refine cw_region ?_
        refine lw_op rfl rfl rfl (ow_move rfl rfl ?_)
        replace hb2 := bind_some hb2
        obtain ⟨x1, hx1, hb2⟩ := hb2
        refine lw_op rfl rfl rfl (ow_indexSlice (R := (RSlice RSpan)) rfl rfl rfl (VRep.mono hl2 hv2) Tryd.underlying27 (Tryd.sizeOf93 _) hx1 fun p2 hp2 => ?_)
        refine lw_op rfl rfl rfl (ow_load (R := (RSlice RSpan)) rfl rfl hp2 (Tryd.sizeOf93 _) (Tryd.isAgg93 _) fun v4 hv4 => ?_)
        refine lw_op rfl rfl rfl (ow_assign rfl rfl ?_)
        refine lw_op rfl rfl rfl (ow_assign rfl rfl ?_)
        refine lw_nil ?_
        refine ew_then ?_
        refine cw_seq ?_
        refine cw_region ?_
        refine lw_op rfl rfl rfl (ow_move rfl rfl ?_)
        refine lw_op rfl rfl rfl (ow_move rfl rfl ?_)
        replace hb2 := bind_some hb2
        obtain ⟨x2, hx2, hb2⟩ := hb2
        refine lw_op rfl rfl rfl (ow_call rfl rfl Tryd.call107 (w_impl_FieldTop (hG.mono (hl1.trans hl2)) hC2.old hx2) fun v5 w3 hv5 => ?_)
        obtain ⟨hv5, hb3⟩ := hv5
        have hl3 := Le.no M1 hb3
        have hC3 := hC2.no hb3
        obtain rfl := vint_eq hv5
        replace hb2 := bind_some hb2
        obtain ⟨x3, hx3, hb2⟩ := hb2
        refine lw_op rfl rfl rfl (ow_call rfl rfl Tryd.call106 (w_impl_SpansValid (hG.mono ((hl1.trans hl2).trans hl3)) hC3.old (VRep.mono hl3 hv4) hx3) fun v6 w4 hv6 => ?_)
        obtain ⟨hv6, hb4⟩ := hv6
        have hl4 := Le.no M1 hb4
        have hC4 := hC3.no hb4
        obtain rfl := vbool_eq hv6
        refine lw_op rfl rfl rfl (ow_not rfl rfl ?_)
        refine lw_nil ?_
        refine ew_then ?_
        replace hb2 := cond_some hb2
        rcases hb2 with ⟨hc3, hb2⟩ | ⟨hc3, hb2⟩
        · subst hc3
          refine cw_false rfl ?_
          refine cw_skip ?_
          refine ew_blockN ?_
          refine ew_then ?_
          refine cw_region ?_
          refine lw_op rfl rfl rfl (ow_add rfl rfl rfl ?_)
          refine lw_op rfl rfl rfl (ow_move rfl rfl ?_)
          refine lw_nil ?_
          refine ew_nxt (W (k1 + 1)) hb2 fun a ha => ⟨M1, ?_, ((hl2.trans hl3).trans hl4), hC4⟩
          exact ha.sub ⟨rfl, rfl, rfl, trivial⟩
        · subst hc3
          refine cw_true rfl ?_
          refine cw_seq ?_
          refine cw_region ?_
          refine lw_op rfl rfl rfl (ow_assign rfl rfl ?_)
          refine lw_nil ?_
          refine ew_then ?_
          refine cw_ret ?_
          refine ew_blockR ?_
          refine ew_thenR ?_
          refine ew_thenR ?_
          refine ew_blockR ?_
          refine ew_brkR ?_
          refine ew_thenR ?_
          have e1 := hR1 _ (Option.some.inj hb2).symm
          subst e1
          obtain rfl := Option.some.inj h
          exact ew_ret (res1 rfl (.tmp rfl)) ⟨_, rfl, ((vbool _)), hC4.bx⟩
      · obtain rfl := hbb2.trans hc2
        refine cw_false rfl ?_
        refine cw_exit ?_
        refine ew_thenX ?_
        refine ew_thenX ?_
        refine ew_blockX ?_
        refine ew_brk k1 hb2 fun a ha => ⟨M1, ?_, hl2, hC2⟩
        exact ha.sub ⟨rfl, rfl, rfl, trivial⟩
    · rintro k2 a w5 hlr2 ⟨M2, hF2, hl5, hC5⟩
      subst hlr2
      refine ew_at (E := [(10, v2), (11, (.int .i64 (a_b.Sides.length : Int))), (12, (.int .i64 k2))]) hF2 ?_
      refine ew_then ?_
      refine cw_seq ?_
      refine cw_region ?_
      refine lw_op rfl rfl rfl (ow_assign rfl rfl ?_)
      refine lw_nil ?_
      refine ew_then ?_
      refine cw_ret ?_
      obtain rfl := Option.some.inj h
      exact ew_ret (res1 rfl (.tmp rfl)) ⟨_, rfl, ((vbool _)), hC5.bx⟩

theorem w_impl_sidesOf {w : World} {M : Nat → Prop} (_hG : ARep (RArr 4 RShape) w M shapes ⟨0, 0, none⟩) (hO : ∀ b, M b → b < w.heap.size) {v0p : Value} {a_b : Box} (h0 : VRep RBox w M a_b v0p) {r : (List (List Span))} (h : F.impl_sidesOf a_b = some r) :
    Calls Tryd.prog 64 [v0p].toArray w fun e w' => ∃ v, e = .returned v ∧ VRep (RArr 4 (RSlice RSpan)) w' M r v ∧ BX No w w' := by
  have hC : Cx No w M w M := Cx.start hO (fun _ e => e.elim)
  clear _hG
  refine walk (N := 7) Tryd.func64 rfl Tryd.ntmps64 rfl ?_
  refine cw_seq ?_
  refine cw_region ?_
  refine lw_op rfl rfl rfl (ow_box (R := RBox) rfl rfl h0 hC fun p1 w1 hp1 hb1 hl1 hC1 => ?_)
  refine lw_op rfl rfl rfl (ow_alloc rfl (Tryd.zeroValue95 _) hC1 fun g1 w2 hg1 hg2 ho1 hb2 hl2 hC2 => ?_)
  have hm1 : (Add g1 M) g1 := .inl rfl
  have ho2 : OwnA (RArr 4 (RSlice RSpan)) w2 (Add g1 M) g1 95 [([] : List Span), ([] : List Span), ([] : List Span), ([] : List Span)] := OwnA.of ho1 ⟨rfl, ⟨_, _, rfl, (vslice_nil (R := RSpan) (w := w2) (M := (Add g1 M))).cells, _, _, rfl, (vslice_nil (R := RSpan) (w := w2) (M := (Add g1 M))).cells, _, _, rfl, (vslice_nil (R := RSpan) (w := w2) (M := (Add g1 M))).cells, _, _, rfl, (vslice_nil (R := RSpan) (w := w2) (M := (Add g1 M))).cells, rfl⟩⟩
  refine lw_nil ?_
  refine ew_then ?_
  refine cw_seq ?_
  refine cw_region ?_
  refine lw_op rfl rfl rfl (ow_fieldAddr rfl rfl Tryd.underlying29 rfl (Tryd.sizeOf27 _) ?_)
  refine lw_op rfl rfl rfl (ow_load (R := (RSlice (RSlice RSpan))) rfl rfl (ARep.mono hl2 (hp1.fld fld_Box_Sides)) (Tryd.sizeOf27 _) (Tryd.isAgg27 _) fun v1 hv1 => ?_)
  replace h := bind_some h
  obtain ⟨y1, hy1, h⟩ := h
  refine lw_op rfl rfl rfl (ow_s2ap rfl rfl hv1 Tryd.underlying95 (arrF_some hy1).2 (by decide) fun p2 hp2 => ?_)
  rw [← (arrF_some hy1).1] at hp2
  refine lw_op rfl rfl rfl (ow_load (R := (RArr 4 (RSlice RSpan))) rfl rfl hp2 (Tryd.sizeOf95 _) (Tryd.isAgg95 _) fun v2 hv2 => ?_)
  obtain ⟨cs1, h1, h2⟩ := ho2.own
  refine lw_op0 rfl rfl (ow_storeA (X := No) (R := (RArr 4 (RSlice RSpan))) rfl rfl rfl rfl h1 h2 (Tryd.sizeOf95 _) hv2 hm1 (.inl hg2) hC2 fun w3 ho3 hb3 hl3 hC3 => ?_)
  refine lw_nil ?_
  refine ew_then ?_
  refine cw_ret ?_
  obtain rfl := Option.some.inj h
  obtain ⟨v3, hq1, hw1⟩ := resA ho3 (Tryd.sizeOf95 _) (Tryd.isAgg95 _) rfl
  exact ew_ret (res1 rfl (.cell rfl hq1)) ⟨_, rfl, (hw1.mono hC3.back), hC3.bx⟩

theorem w_impl_sides_empty {w : World} {M : Nat → Prop} (_hG : ARep (RArr 4 RShape) w M shapes ⟨0, 0, none⟩) (hO : ∀ b, M b → b < w.heap.size) {v0p : Value} {a_s : List (List Span)} (h0 : VRep (RArr 4 (RSlice RSpan)) w M a_s v0p) {r : Bool} (h : F.impl_sides_empty a_s = some r) :
    Calls Tryd.prog 114 [v0p].toArray w fun e w' => ∃ v, e = .returned v ∧ VRep RBool w' M r v ∧ BX No w w' := by
  have hC : Cx No w M w M := Cx.start hO (fun _ e => e.elim)
  clear _hG
  refine walk (N := 13) Tryd.func114 rfl Tryd.ntmps114 rfl ?_
  refine cw_seq ?_
  refine cw_region ?_
  refine lw_op rfl rfl rfl (ow_box (R := (RArr 4 (RSlice RSpan))) rfl rfl h0 hC fun p1 w1 hp1 hb1 hl1 hC1 => ?_)
  refine lw_op rfl rfl rfl (ow_assign rfl rfl ?_)
  refine lw_nil ?_
  refine ew_then ?_
  refine cw_seq ?_
  refine cw_seq ?_
  refine cw_region ?_
  refine lw_op rfl rfl rfl (ow_load (R := (RArr 4 (RSlice RSpan))) rfl rfl hp1 (Tryd.sizeOf95 _) (Tryd.isAgg95 _) fun v1 hv1 => ?_)
  refine lw_op rfl rfl rfl (ow_move rfl rfl ?_)
  refine lw_nil ?_
  refine ew_then ?_
  replace h := bind_some h
  obtain ⟨lr1, hlr1, h⟩ := h
  refine cw_for hlr1 (fun s a w' => ∃ (M' : Nat → Prop), Fits 13 [(5, v1), (6, (.int .i64 s))] a ∧ Le w1 M w' M' ∧ Cx No w M w' M') ?_ ?_ ?_
  · intro a ha
    exact ⟨M, ha.sub ⟨rfl, rfl, trivial⟩, Le.refl _ _, hC1⟩
  · rintro k1 a w2 sr1 ⟨M1, hF1, hl2, hC2⟩ hb2 hR1
    refine cw_at (E := [(5, v1), (6, (.int .i64 k1))]) hF1 ?_
    refine cw_seq ?_
    refine cw_region ?_
    refine lw_op rfl rfl rfl (ow_lss rfl rfl rfl fun bb1 hbb1 => ?_)
    refine lw_nil ?_
    refine ew_then ?_
    refine cw_seq ?_
    replace hb2 := cond_some hb2
    rcases hb2 with ⟨hc1, hb2⟩ | ⟨hc1, hb2⟩
    · obtain rfl := hbb1.trans hc1
      refine cw_true rfl ?_
      refine cw_skip ?_
      refine ew_then ?_
      refine cw_seq ?_
      refine cw_block ?_
      refine cw_seq ?_
      refine cw_region ?_
      replace hb2 := bind_some hb2
      obtain ⟨x1, hx1, hb2⟩ := hb2
      refine lw_op rfl rfl rfl (ow_index (R := (RSlice RSpan)) rfl rfl rfl (VRep.mono hl2 hv1) Tryd.underlying95 (Tryd.sizeOf93 _) (Tryd.isAgg93 _) hx1 fun v3 hv3 => ?_)
      refine lw_op rfl rfl rfl (ow_assign rfl rfl ?_)
      refine lw_nil ?_
      refine ew_then ?_
      refine cw_seq ?_
      refine cw_region ?_
      refine lw_op rfl rfl rfl (ow_move rfl rfl ?_)
      refine lw_op rfl rfl rfl (ow_len rfl rfl hv3 Tryd.underlying93 rfl ?_)
      refine lw_op rfl rfl rfl (ow_eqlI rfl rfl rfl fun bb2 hbb2 => ?_)
      refine lw_nil ?_
      refine ew_then ?_
      replace hb2 := cond_some hb2
      rcases hb2 with ⟨hc2, hb2⟩ | ⟨hc2, hb2⟩
      · obtain rfl := hbb2.trans hc2
        refine cw_true rfl ?_
        refine cw_seq ?_
        refine cw_region ?_
        refine lw_op rfl rfl rfl (ow_assign rfl rfl ?_)
        refine lw_nil ?_
        refine ew_then ?_
        refine cw_ret ?_
        refine ew_blockR ?_
        refine ew_thenR ?_
        refine ew_thenR ?_
        refine ew_blockR ?_
        refine ew_brkR ?_
        refine ew_thenR ?_
        have e1 := hR1 _ (Option.some.inj hb2).symm
        subst e1
        obtain rfl := Option.some.inj h
        exact ew_ret (res1 rfl (.tmp rfl)) ⟨_, rfl, ((vbool _)), hC2.bx⟩
      · obtain rfl := hbb2.trans hc2
        refine cw_false rfl ?_
        refine cw_skip ?_
        refine ew_blockN ?_
        refine ew_then ?_
        refine cw_region ?_
        refine lw_op rfl rfl rfl (ow_add rfl rfl rfl ?_)
        refine lw_op rfl rfl rfl (ow_move rfl rfl ?_)
        refine lw_nil ?_
        refine ew_nxt (W (k1 + 1)) hb2 fun a ha => ⟨M1, ?_, hl2, hC2⟩
        exact ha.sub ⟨rfl, rfl, trivial⟩
    · obtain rfl := hbb1.trans hc1
      refine cw_false rfl ?_
      refine cw_exit ?_
      refine ew_thenX ?_
      refine ew_thenX ?_
      refine ew_blockX ?_
      refine ew_brk k1 hb2 fun a ha => ⟨M1, ?_, hl2, hC2⟩
      exact ha.sub ⟨rfl, rfl, trivial⟩
  · rintro k2 a w3 hlr2 ⟨M2, hF2, hl3, hC3⟩
    subst hlr2
    refine ew_at (E := [(5, v1), (6, (.int .i64 k2))]) hF2 ?_
    refine ew_then ?_
    refine cw_seq ?_
    refine cw_region ?_
    refine lw_op rfl rfl rfl (ow_assign rfl rfl ?_)
    refine lw_nil ?_
    refine ew_then ?_
    refine cw_ret ?_
    obtain rfl := Option.some.inj h
    exact ew_ret (res1 rfl (.tmp rfl)) ⟨_, rfl, ((vbool _)), hC3.bx⟩

theorem w_slices_Equal_impl_Span_impl_Span {w : World} {M : Nat → Prop} (_hG : ARep (RArr 4 RShape) w M shapes ⟨0, 0, none⟩) (hO : ∀ b, M b → b < w.heap.size) {v0p : Value} {a_s1 : List Span} (h0 : VRep (RSlice RSpan) w M a_s1 v0p) {v1p : Value} {a_s2 : List Span} (h1 : VRep (RSlice RSpan) w M a_s2 v1p) {r : Bool} (h : F.slices_Equal_impl_Span_impl_Span a_s1 a_s2 = some r) :
    Calls Tryd.prog 115 [v0p, v1p].toArray w fun e w' => ∃ v, e = .returned v ∧ VRep RBool w' M r v ∧ BX No w w' := by
  have hC : Cx No w M w M := Cx.start hO (fun _ e => e.elim)
  clear _hG
  refine walk (N := 26) Tryd.func115 rfl Tryd.ntmps115 rfl ?_
  refine cw_seq ?_
  refine cw_region ?_
  refine lw_op rfl rfl rfl (ow_assign rfl rfl ?_)
  refine lw_nil ?_
  refine ew_then ?_
  refine cw_seq ?_
  refine cw_seq ?_
  refine cw_region ?_
  refine lw_op rfl rfl rfl (ow_move rfl rfl ?_)
  refine lw_op rfl rfl rfl (ow_len rfl rfl h0 Tryd.underlying93 rfl ?_)
  refine lw_op rfl rfl rfl (ow_move rfl rfl ?_)
  refine lw_op rfl rfl rfl (ow_len rfl rfl h1 Tryd.underlying93 rfl ?_)
  refine lw_op rfl rfl rfl (ow_neqI rfl rfl rfl fun bb1 hbb1 => ?_)
  refine lw_nil ?_
  refine ew_then ?_
  replace h := cond_some h
  rcases h with ⟨hc1, h⟩ | ⟨hc1, h⟩
  · obtain rfl := hbb1.trans hc1
    refine cw_true rfl ?_
    refine cw_seq ?_
    refine cw_region ?_
    refine lw_op rfl rfl rfl (ow_assign rfl rfl ?_)
    refine lw_nil ?_
    refine ew_then ?_
    refine cw_ret ?_
    refine ew_thenR ?_
    obtain rfl := Option.some.inj h
    exact ew_ret (res1 rfl (.tmp rfl)) ⟨_, rfl, ((vbool _)), hC.bx⟩
  · obtain rfl := hbb1.trans hc1
    refine cw_false rfl ?_
    refine cw_skip ?_
    refine ew_then ?_
    refine cw_seq ?_
    refine cw_seq ?_
    refine cw_region ?_
    refine lw_op rfl rfl rfl (ow_move rfl rfl ?_)
    refine lw_op rfl rfl rfl (ow_len rfl rfl h0 Tryd.underlying93 rfl ?_)
    refine lw_op rfl rfl rfl (ow_move rfl rfl ?_)
    refine lw_nil ?_
    refine ew_then ?_
    replace h := bind_some h
    obtain ⟨lr1, hlr1, h⟩ := h
    refine cw_for hlr1 (fun s a w' => ∃ (M' : Nat → Prop), Fits 26 [(0, v0p), (1, v1p), (12, (.int .i64 (a_s1.length : Int))), (13, (.int .i64 s))] a ∧ Le w M w' M' ∧ Cx No w M w' M') ?_ ?_ ?_
    · intro a ha
      exact ⟨M, ha.sub ⟨rfl, rfl, rfl, rfl, trivial⟩, Le.refl _ _, hC⟩
    · rintro k1 a w1 sr1 ⟨M1, hF1, hl1, hC1⟩ hb1 hR1
      refine cw_at (E := [(0, v0p), (1, v1p), (12, (.int .i64 (a_s1.length : Int))), (13, (.int .i64 k1))]) hF1 ?_
      refine cw_seq ?_
      refine cw_region ?_
      refine lw_op rfl rfl rfl (ow_lss rfl rfl rfl fun bb2 hbb2 => ?_)
      refine lw_nil ?_
      refine ew_then ?_
      refine cw_seq ?_
      replace hb1 := cond_some hb1
      rcases hb1 with ⟨hc2, hb1⟩ | ⟨hc2, hb1⟩
      · obtain rfl := hbb2.trans hc2
        refine cw_true rfl ?_
        refine cw_skip ?_
        refine ew_then ?_
        refine cw_seq ?_
        refine cw_block ?_
        refine cw_seq ?_
        refine cw_region ?_
        refine lw_op rfl rfl rfl (ow_move rfl rfl ?_)
        refine lw_op rfl rfl rfl (ow_assign rfl rfl ?_)
        refine lw_nil ?_
        refine ew_then ?_
        refine cw_seq ?_
        replace hb1 := bind_some hb1
        obtain ⟨x1, hx1, hb1⟩ := hb1
        replace hb1 := bind_some hb1
        obtain ⟨x2, hx2, hb1⟩ := hb1
        refine cw_sub (E' := [(0, v0p), (1, v1p), (5, (.int .i64 k1)), (12, (.int .i64 (a_s1.length : Int))), (13, (.int .i64 k1))]) ⟨rfl, rfl, rfl, rfl, rfl, trivial⟩ ?_
        refine cw_drawQ 8 [PV (RSlice RSpan) M1 a_s1, PEq (.int .i64 k1), PA RSpan M1 x1, PV RSpan M1 x1, PV (RSlice RSpan) M1 a_s2, PEq (.int .i64 k1), PA RSpan M1 x2, PV RSpan M1 x2] (by kernel_rfl) rfl (by kernel_rfl) ⟨PV.mono _ _ _, PEq.mono _, PA.mono _ _ _, PV.mono _ _ _, PV.mono _ _ _, PEq.mono _, PA.mono _ _ _, PV.mono _ _ _, trivial⟩ ⟨?_, ?_, ?_, ?_, ?_, ?_, ?_, ?_, trivial⟩ ?_
        · intro w2 D hS1 hd1
          have hl2 := Le.no M1 hS1
          have hC2 := hC1.no hS1
          refine dg_sub (E' := [(0, v0p)]) ⟨rfl, trivial⟩ ?_
          refine dg_plain rfl (ow_move rfl rfl ?_)
          exact ⟨BX.refl _ _, (VRep.mono (hl1.trans hl2) h0)⟩
        · intro w3 D hS2 hd2
          have hl3 := Le.no M1 hS2
          have hC3 := hC1.no hS2
          refine dg_sub (E' := [(5, (.int .i64 k1))]) ⟨rfl, trivial⟩ ?_
          refine dg_plain rfl (ow_move rfl rfl ?_)
          exact ⟨BX.refl _ _, rfl⟩
        · intro w4 D hS3 hd3
          have hl4 := Le.no M1 hS3
          have hC4 := hC1.no hS3
          have hd3 : PV (RSlice RSpan) M1 a_s1 (D 0) w4 ∧ PEq (.int .i64 k1) (D 1) w4 ∧ True := hd3
          obtain ⟨d1, d2, -⟩ := hd3
          obtain ⟨v4, hq1⟩ : ∃ v, (D 0) = v := ⟨_, rfl⟩
          rw [hq1] at d1
          refine dg_sub (E' := [(16, v4), (17, (.int .i64 k1))]) ⟨(congrArg some hq1), (congrArg some d2), trivial⟩ ?_
          refine dg_plain rfl (ow_indexSlice (R := RSpan) rfl rfl rfl d1 Tryd.underlying93 (Tryd.sizeOf140 _) hx1 fun p3 hp3 => ?_)
          exact ⟨BX.refl _ _, ⟨_, rfl, hp3⟩⟩
        · intro w5 D hS4 hd4
          have hl5 := Le.no M1 hS4
          have hC5 := hC1.no hS4
          have hd4 : PA RSpan M1 x1 (D 2) w5 ∧ True := hd4
          obtain ⟨d3, -⟩ := hd4
          obtain ⟨p4, e1, ha1⟩ := d3
          refine dg_sub (E' := [(18, (.pointer (some p4)))]) ⟨(congrArg some e1), trivial⟩ ?_
          refine dg_plain rfl (ow_load (R := RSpan) rfl rfl ha1 (Tryd.sizeOf140 _) (Tryd.isAgg140 _) fun v5 hv5 => ?_)
          exact ⟨BX.refl _ _, hv5⟩
        · intro w6 D hS5 hd5
          have hl6 := Le.no M1 hS5
          have hC6 := hC1.no hS5
          refine dg_sub (E' := [(1, v1p)]) ⟨rfl, trivial⟩ ?_
          refine dg_plain rfl (ow_move rfl rfl ?_)
          exact ⟨BX.refl _ _, (VRep.mono (hl1.trans hl6) h1)⟩
        · intro w7 D hS6 hd6
          have hl7 := Le.no M1 hS6
          have hC7 := hC1.no hS6
          refine dg_sub (E' := [(5, (.int .i64 k1))]) ⟨rfl, trivial⟩ ?_
          refine dg_plain rfl (ow_move rfl rfl ?_)
          exact ⟨BX.refl _ _, rfl⟩
        · intro w8 D hS7 hd7
          have hl8 := Le.no M1 hS7
          have hC8 := hC1.no hS7
          have hd7 : PV (RSlice RSpan) M1 a_s2 (D 4) w8 ∧ PEq (.int .i64 k1) (D 5) w8 ∧ True := hd7
          obtain ⟨d4, d5, -⟩ := hd7
          obtain ⟨v6, hq2⟩ : ∃ v, (D 4) = v := ⟨_, rfl⟩
          rw [hq2] at d4
          refine dg_sub (E' := [(20, v6), (21, (.int .i64 k1))]) ⟨(congrArg some hq2), (congrArg some d5), trivial⟩ ?_
          refine dg_plain rfl (ow_indexSlice (R := RSpan) rfl rfl rfl d4 Tryd.underlying93 (Tryd.sizeOf140 _) hx2 fun p5 hp5 => ?_)
          exact ⟨BX.refl _ _, ⟨_, rfl, hp5⟩⟩
        · intro w9 D hS8 hd8
          have hl9 := Le.no M1 hS8
          have hC9 := hC1.no hS8
          have hd8 : PA RSpan M1 x2 (D 6) w9 ∧ True := hd8
          obtain ⟨d6, -⟩ := hd8
          obtain ⟨p6, e2, ha2⟩ := d6
          refine dg_sub (E' := [(22, (.pointer (some p6)))]) ⟨(congrArg some e2), trivial⟩ ?_
          refine dg_plain rfl (ow_load (R := RSpan) rfl rfl ha2 (Tryd.sizeOf140 _) (Tryd.isAgg140 _) fun v7 hv7 => ?_)
          exact ⟨BX.refl _ _, hv7⟩
        · intro w10 D hS9 hd9
          have hl10 := Le.no M1 hS9
          have hC10 := hC1.no hS9
          have hd9 : PV (RSlice RSpan) M1 a_s1 (D 0) w10 ∧ PEq (.int .i64 k1) (D 1) w10 ∧ PA RSpan M1 x1 (D 2) w10 ∧ PV RSpan M1 x1 (D 3) w10 ∧ PV (RSlice RSpan) M1 a_s2 (D 4) w10 ∧ PEq (.int .i64 k1) (D 5) w10 ∧ PA RSpan M1 x2 (D 6) w10 ∧ PV RSpan M1 x2 (D 7) w10 ∧ True := hd9
          obtain ⟨-, -, -, d10, -, -, -, d14, -⟩ := hd9
          obtain ⟨v8, hq3⟩ : ∃ v, (D 3) = v := ⟨_, rfl⟩
          rw [hq3] at d10
          obtain ⟨v9, hq4⟩ : ∃ v, (D 7) = v := ⟨_, rfl⟩
          rw [hq4] at d14
          refine lw_sub (E' := [(19, v8), (23, v9), (0, v0p), (1, v1p), (5, (.int .i64 k1)), (12, (.int .i64 (a_s1.length : Int))), (13, (.int .i64 k1))]) ⟨(congrArg some hq3), (congrArg some hq4), rfl, rfl, rfl, rfl, rfl, trivial⟩ ?_
          obtain rfl := open_Span d10
          obtain rfl := open_Span d14
          refine lw_op rfl rfl rfl (ow_neqS rfl rfl rfl (Tryd.eqGuardType140) (eqS140 (x := x1) (y := x2) _) fun bb3 hbb3 => ?_)
          refine lw_nil ?_
          refine ew_then ?_
          replace hb1 := cond_some hb1
          rcases hb1 with ⟨hc3, hb1⟩ | ⟨hc3, hb1⟩
          · obtain rfl := hbb3.trans hc3
            refine cw_true rfl ?_
            refine cw_seq ?_
            refine cw_region ?_
            refine lw_op rfl rfl rfl (ow_assign rfl rfl ?_)
            refine lw_nil ?_
            refine ew_then ?_
            refine cw_ret ?_
            refine ew_blockR ?_
            refine ew_thenR ?_
            refine ew_thenR ?_
            refine ew_blockR ?_
            refine ew_brkR ?_
            refine ew_thenR ?_
            have e3 := hR1 _ (Option.some.inj hb1).symm
            subst e3
            obtain rfl := Option.some.inj h
            exact ew_ret (res1 rfl (.tmp rfl)) ⟨_, rfl, ((vbool _)), hC10.bx⟩
          · obtain rfl := hbb3.trans hc3
            refine cw_false rfl ?_
            refine cw_skip ?_
            refine ew_blockN ?_
            refine ew_then ?_
            refine cw_region ?_
            refine lw_op rfl rfl rfl (ow_add rfl rfl rfl ?_)
            refine lw_op rfl rfl rfl (ow_move rfl rfl ?_)
            refine lw_nil ?_
            refine ew_nxt (W (k1 + 1)) hb1 fun a ha => ⟨M1, ?_, (hl1.trans hl10), hC10⟩
            exact ha.sub ⟨rfl, rfl, rfl, rfl, trivial⟩
      · obtain rfl := hbb2.trans hc2
        refine cw_false rfl ?_
        refine cw_exit ?_
        refine ew_thenX ?_
        refine ew_thenX ?_
        refine ew_blockX ?_
        refine ew_brk k1 hb1 fun a ha => ⟨M1, ?_, hl1, hC1⟩
        exact ha.sub ⟨rfl, rfl, rfl, rfl, trivial⟩
    · rintro k2 a w11 hlr2 ⟨M2, hF2, hl11, hC11⟩
      subst hlr2
      refine ew_at (E := [(0, v0p), (1, v1p), (12, (.int .i64 (a_s1.length : Int))), (13, (.int .i64 k2))]) hF2 ?_
      refine ew_then ?_
      refine cw_seq ?_
      refine cw_region ?_
      refine lw_op rfl rfl rfl (ow_assign rfl rfl ?_)
      refine lw_nil ?_
      refine ew_then ?_
      refine cw_ret ?_
      obtain rfl := Option.some.inj h
      exact ew_ret (res1 rfl (.tmp rfl)) ⟨_, rfl, ((vbool _)), hC11.bx⟩

theorem w_impl_sides_same {w : World} {M : Nat → Prop} (hG : ARep (RArr 4 RShape) w M shapes ⟨0, 0, none⟩) (hO : ∀ b, M b → b < w.heap.size) {v0p : Value} {a_s : List (List Span)} (h0 : VRep (RArr 4 (RSlice RSpan)) w M a_s v0p) {v1p : Value} {a_other : List (List Span)} (h1 : VRep (RArr 4 (RSlice RSpan)) w M a_other v1p) {r : Bool} (h : F.impl_sides_same a_s a_other = some r) :
    Calls Tryd.prog 65 [v0p, v1p].toArray w fun e w' => ∃ v, e = .returned v ∧ VRep RBool w' M r v ∧ BX No w w' := by
  have hC : Cx No w M w M := Cx.start hO (fun _ e => e.elim)
  refine walk (N := 30) Tryd.func65 rfl Tryd.ntmps65 rfl ?_
  refine cw_seq ?_
  refine cw_region ?_
  refine lw_op rfl rfl rfl (ow_box (R := (RArr 4 (RSlice RSpan))) rfl rfl h0 hC fun p1 w1 hp1 hb1 hl1 hC1 => ?_)
  refine lw_op rfl rfl rfl (ow_box (R := (RArr 4 (RSlice RSpan))) rfl rfl (VRep.mono hl1 h1) hC1 fun p2 w2 hp2 hb2 hl2 hC2 => ?_)
  refine lw_op rfl rfl rfl (ow_assign rfl rfl ?_)
  refine lw_nil ?_
  refine ew_then ?_
  refine cw_seq ?_
  refine cw_seq ?_
  refine cw_region ?_
  refine lw_op rfl rfl rfl (ow_load (R := (RArr 4 (RSlice RSpan))) rfl rfl (ARep.mono hl2 hp1) (Tryd.sizeOf95 _) (Tryd.isAgg95 _) fun v1 hv1 => ?_)
  replace h := bind_some h
  obtain ⟨x1, hx1, h⟩ := h
  refine lw_op rfl rfl rfl (ow_call rfl rfl Tryd.call114 (w_impl_sides_empty (hG.mono (hl1.trans hl2)) hC2.old hv1 hx1) fun v2 w3 hv2 => ?_)
  obtain ⟨hv2, hb3⟩ := hv2
  have hl3 := Le.no M hb3
  have hC3 := hC2.no hb3
  obtain rfl := vbool_eq hv2
  refine lw_op rfl rfl rfl (ow_move rfl rfl ?_)
  replace h := cond_some h
  rcases h with ⟨hc1, h⟩ | ⟨hc1, h⟩
  · subst hc1
    refine lw_off rfl rfl rfl rfl rfl rfl ?_
    refine lw_off rfl rfl rfl rfl rfl rfl ?_
    refine lw_op rfl rfl rfl (ow_pickT rfl rfl rfl ?_)
    refine lw_nil ?_
    refine ew_then ?_
    refine cw_true rfl ?_
    refine cw_seq ?_
    refine cw_region ?_
    refine lw_op rfl rfl rfl (ow_load (R := (RArr 4 (RSlice RSpan))) rfl rfl (ARep.mono (hl2.trans hl3) hp1) (Tryd.sizeOf95 _) (Tryd.isAgg95 _) fun v3 hv3 => ?_)
    refine lw_op rfl rfl rfl (ow_call rfl rfl Tryd.call114 (w_impl_sides_empty (hG.mono ((hl1.trans hl2).trans hl3)) hC3.old hv3 hx1) fun v4 w4 hv4 => ?_)
    obtain ⟨hv4, hb4⟩ := hv4
    have hl4 := Le.no M hb4
    have hC4 := hC3.no hb4
    obtain rfl := vbool_eq hv4
    refine lw_op rfl rfl rfl (ow_move rfl rfl ?_)
    refine lw_on rfl rfl rfl rfl rfl rfl (ow_load (R := (RArr 4 (RSlice RSpan))) rfl rfl (ARep.mono (hl3.trans hl4) hp2) (Tryd.sizeOf95 _) (Tryd.isAgg95 _) fun v5 hv5 => ?_)
    replace h := bind_some h
    obtain ⟨x2, hx2, h⟩ := h
    refine lw_on rfl rfl rfl rfl rfl rfl (ow_call rfl rfl Tryd.call114 (w_impl_sides_empty (hG.mono (((hl1.trans hl2).trans hl3).trans hl4)) hC4.old hv5 hx2) fun v6 w5 hv6 => ?_)
    obtain ⟨hv6, hb5⟩ := hv6
    have hl5 := Le.no M hb5
    have hC5 := hC4.no hb5
    obtain rfl := vbool_eq hv6
    refine lw_op rfl rfl rfl (ow_pickT rfl rfl rfl ?_)
    refine lw_op rfl rfl rfl (ow_assign rfl rfl ?_)
    refine lw_nil ?_
    refine ew_then ?_
    refine cw_ret ?_
    refine ew_thenR ?_
    obtain rfl := Option.some.inj h
    exact ew_ret (res1 rfl (.tmp rfl)) ⟨_, rfl, ((vbool _)), hC5.bx⟩
  · subst hc1
    refine lw_on rfl rfl rfl rfl rfl rfl (ow_load (R := (RArr 4 (RSlice RSpan))) rfl rfl (ARep.mono hl3 hp2) (Tryd.sizeOf95 _) (Tryd.isAgg95 _) fun v7 hv7 => ?_)
    replace h := bind_some h
    obtain ⟨x3, hx3, h⟩ := h
    refine lw_on rfl rfl rfl rfl rfl rfl (ow_call rfl rfl Tryd.call114 (w_impl_sides_empty (hG.mono ((hl1.trans hl2).trans hl3)) hC3.old hv7 hx3) fun v8 w6 hv8 => ?_)
    obtain ⟨hv8, hb6⟩ := hv8
    have hl6 := Le.no M hb6
    have hC6 := hC3.no hb6
    obtain rfl := vbool_eq hv8
    refine lw_op rfl rfl rfl (ow_pickF rfl rfl rfl ?_)
    refine lw_nil ?_
    refine ew_then ?_
    replace h := cond_some h
    rcases h with ⟨hc2, h⟩ | ⟨hc2, h⟩
    · subst hc2
      refine cw_true rfl ?_
      refine cw_seq ?_
      refine cw_region ?_
      refine lw_op rfl rfl rfl (ow_load (R := (RArr 4 (RSlice RSpan))) rfl rfl (ARep.mono ((hl2.trans hl3).trans hl6) hp1) (Tryd.sizeOf95 _) (Tryd.isAgg95 _) fun v9 hv9 => ?_)
      refine lw_op rfl rfl rfl (ow_call rfl rfl Tryd.call114 (w_impl_sides_empty (hG.mono (((hl1.trans hl2).trans hl3).trans hl6)) hC6.old hv9 hx1) fun v10 w7 hv10 => ?_)
      obtain ⟨hv10, hb7⟩ := hv10
      have hl7 := Le.no M hb7
      have hC7 := hC6.no hb7
      obtain rfl := vbool_eq hv10
      refine lw_op rfl rfl rfl (ow_move rfl rfl ?_)
      refine lw_off rfl rfl rfl rfl rfl rfl ?_
      refine lw_off rfl rfl rfl rfl rfl rfl ?_
      refine lw_op rfl rfl rfl (ow_pickF rfl rfl rfl ?_)
      refine lw_op rfl rfl rfl (ow_assign rfl rfl ?_)
      refine lw_nil ?_
      refine ew_then ?_
      refine cw_ret ?_
      refine ew_thenR ?_
      obtain rfl := Option.some.inj h
      exact ew_ret (res1 rfl (.tmp rfl)) ⟨_, rfl, ((vbool _)), hC7.bx⟩
    · subst hc2
      refine cw_false rfl ?_
      refine cw_skip ?_
      refine ew_then ?_
      refine cw_seq ?_
      refine cw_seq ?_
      refine cw_region ?_
      refine lw_op rfl rfl rfl (ow_move rfl rfl ?_)
      refine lw_nil ?_
      refine ew_then ?_
      replace h := bind_some h
      obtain ⟨lr1, hlr1, h⟩ := h
      refine cw_for hlr1 (fun s a w' => ∃ (M' : Nat → Prop), Fits 30 [(2, (.pointer (some p1))), (3, (.pointer (some p2))), (18, (.int .i64 s))] a ∧ Le w6 M w' M' ∧ Cx No w M w' M') ?_ ?_ ?_
      · intro a ha
        exact ⟨M, ha.sub ⟨rfl, rfl, rfl, trivial⟩, Le.refl _ _, hC6⟩
      · rintro k1 a w8 sr1 ⟨M1, hF1, hl8, hC8⟩ hb8 hR1
        refine cw_at (E := [(2, (.pointer (some p1))), (3, (.pointer (some p2))), (18, (.int .i64 k1))]) hF1 ?_
        refine cw_seq ?_
        refine cw_region ?_
        refine lw_op rfl rfl rfl (ow_lss rfl rfl rfl fun bb1 hbb1 => ?_)
        refine lw_nil ?_
        refine ew_then ?_
        refine cw_seq ?_
        replace hb8 := cond_some hb8
        rcases hb8 with ⟨hc3, hb8⟩ | ⟨hc3, hb8⟩
        · obtain rfl := hbb1.trans hc3
          refine cw_true rfl ?_
          refine cw_skip ?_
          refine ew_then ?_
          refine cw_seq ?_
          refine cw_block ?_
          refine cw_seq ?_
          refine cw_region ?_
          refine lw_op rfl rfl rfl (ow_move rfl rfl ?_)
          refine lw_op rfl rfl rfl (ow_assign rfl rfl ?_)
          refine lw_nil ?_
          refine ew_then ?_
          refine cw_seq ?_
          replace hb8 := bind_some hb8
          obtain ⟨x4, hx4, hb8⟩ := hb8
          replace hb8 := bind_some hb8
          obtain ⟨x5, hx5, hb8⟩ := hb8
          refine cw_sub (E' := [(2, (.pointer (some p1))), (3, (.pointer (some p2))), (5, (.int .i64 k1)), (18, (.int .i64 k1))]) ⟨rfl, rfl, rfl, rfl, trivial⟩ ?_
          refine cw_drawQ 6 [PEq (.int .i64 k1), PA (RSlice RSpan) M1 x4, PV (RSlice RSpan) M1 x4, PEq (.int .i64 k1), PA (RSlice RSpan) M1 x5, PV (RSlice RSpan) M1 x5] (by kernel_rfl) rfl (by kernel_rfl) ⟨PEq.mono _, PA.mono _ _ _, PV.mono _ _ _, PEq.mono _, PA.mono _ _ _, PV.mono _ _ _, trivial⟩ ⟨?_, ?_, ?_, ?_, ?_, ?_, trivial⟩ ?_
          · intro w9 D hS1 hd1
            have hl9 := Le.no M1 hS1
            have hC9 := hC8.no hS1
            refine dg_sub (E' := [(5, (.int .i64 k1))]) ⟨rfl, trivial⟩ ?_
            refine dg_plain rfl (ow_move rfl rfl ?_)
            exact ⟨BX.refl _ _, rfl⟩
          · intro w10 D hS2 hd2
            have hl10 := Le.no M1 hS2
            have hC10 := hC8.no hS2
            have hd2 : PEq (.int .i64 k1) (D 0) w10 ∧ True := hd2
            obtain ⟨d1, -⟩ := hd2
            refine dg_sub (E' := [(21, (.int .i64 k1)), (2, (.pointer (some p1)))]) ⟨(congrArg some d1), rfl, trivial⟩ ?_
            refine dg_plain rfl (ow_indexArr (R := (RSlice RSpan)) rfl rfl rfl (ARep.mono ((((hl2.trans hl3).trans hl6).trans hl8).trans hl10) hp1) Tryd.underlying95 (Tryd.sizeOf93 _) hx4 fun p5 hp5 => ?_)
            exact ⟨BX.refl _ _, ⟨_, rfl, hp5⟩⟩
          · intro w11 D hS3 hd3
            have hl11 := Le.no M1 hS3
            have hC11 := hC8.no hS3
            have hd3 : PA (RSlice RSpan) M1 x4 (D 1) w11 ∧ True := hd3
            obtain ⟨d2, -⟩ := hd3
            obtain ⟨p6, e1, ha1⟩ := d2
            refine dg_sub (E' := [(22, (.pointer (some p6)))]) ⟨(congrArg some e1), trivial⟩ ?_
            refine dg_plain rfl (ow_load (R := (RSlice RSpan)) rfl rfl ha1 (Tryd.sizeOf93 _) (Tryd.isAgg93 _) fun v14 hv14 => ?_)
            exact ⟨BX.refl _ _, hv14⟩
          · intro w12 D hS4 hd4
            have hl12 := Le.no M1 hS4
            have hC12 := hC8.no hS4
            refine dg_sub (E' := [(5, (.int .i64 k1))]) ⟨rfl, trivial⟩ ?_
            refine dg_plain rfl (ow_move rfl rfl ?_)
            exact ⟨BX.refl _ _, rfl⟩
          · intro w13 D hS5 hd5
            have hl13 := Le.no M1 hS5
            have hC13 := hC8.no hS5
            have hd5 : PEq (.int .i64 k1) (D 3) w13 ∧ True := hd5
            obtain ⟨d3, -⟩ := hd5
            refine dg_sub (E' := [(24, (.int .i64 k1)), (3, (.pointer (some p2)))]) ⟨(congrArg some d3), rfl, trivial⟩ ?_
            refine dg_plain rfl (ow_indexArr (R := (RSlice RSpan)) rfl rfl rfl (ARep.mono (((hl3.trans hl6).trans hl8).trans hl13) hp2) Tryd.underlying95 (Tryd.sizeOf93 _) hx5 fun p7 hp7 => ?_)
            exact ⟨BX.refl _ _, ⟨_, rfl, hp7⟩⟩
          · intro w14 D hS6 hd6
            have hl14 := Le.no M1 hS6
            have hC14 := hC8.no hS6
            have hd6 : PA (RSlice RSpan) M1 x5 (D 4) w14 ∧ True := hd6
            obtain ⟨d4, -⟩ := hd6
            obtain ⟨p8, e2, ha2⟩ := d4
            refine dg_sub (E' := [(25, (.pointer (some p8)))]) ⟨(congrArg some e2), trivial⟩ ?_
            refine dg_plain rfl (ow_load (R := (RSlice RSpan)) rfl rfl ha2 (Tryd.sizeOf93 _) (Tryd.isAgg93 _) fun v15 hv15 => ?_)
            exact ⟨BX.refl _ _, hv15⟩
          · intro w15 D hS7 hd7
            have hl15 := Le.no M1 hS7
            have hC15 := hC8.no hS7
            have hd7 : PEq (.int .i64 k1) (D 0) w15 ∧ PA (RSlice RSpan) M1 x4 (D 1) w15 ∧ PV (RSlice RSpan) M1 x4 (D 2) w15 ∧ PEq (.int .i64 k1) (D 3) w15 ∧ PA (RSlice RSpan) M1 x5 (D 4) w15 ∧ PV (RSlice RSpan) M1 x5 (D 5) w15 ∧ True := hd7
            obtain ⟨-, -, d7, -, -, d10, -⟩ := hd7
            obtain ⟨v16, hq1⟩ : ∃ v, (D 2) = v := ⟨_, rfl⟩
            rw [hq1] at d7
            obtain ⟨v17, hq2⟩ : ∃ v, (D 5) = v := ⟨_, rfl⟩
            rw [hq2] at d10
            refine lw_sub (E' := [(23, v16), (26, v17), (2, (.pointer (some p1))), (3, (.pointer (some p2))), (5, (.int .i64 k1)), (18, (.int .i64 k1))]) ⟨(congrArg some hq1), (congrArg some hq2), rfl, rfl, rfl, rfl, trivial⟩ ?_
            replace hb8 := bind_some hb8
            obtain ⟨x6, hx6, hb8⟩ := hb8
            refine lw_op rfl rfl rfl (ow_call rfl rfl Tryd.call115 (w_slices_Equal_impl_Span_impl_Span (hG.mono (((((hl1.trans hl2).trans hl3).trans hl6).trans hl8).trans hl15)) hC15.old d7 d10 hx6) fun v18 w16 hv18 => ?_)
            obtain ⟨hv18, hb9⟩ := hv18
            have hl16 := Le.no M1 hb9
            have hC16 := hC15.no hb9
            obtain rfl := vbool_eq hv18
            refine lw_op rfl rfl rfl (ow_not rfl rfl ?_)
            refine lw_nil ?_
            refine ew_then ?_
            replace hb8 := cond_some hb8
            rcases hb8 with ⟨hc4, hb8⟩ | ⟨hc4, hb8⟩
            · subst hc4
              refine cw_false rfl ?_
              refine cw_skip ?_
              refine ew_blockN ?_
              refine ew_then ?_
              refine cw_region ?_
              refine lw_op rfl rfl rfl (ow_add rfl rfl rfl ?_)
              refine lw_op rfl rfl rfl (ow_move rfl rfl ?_)
              refine lw_nil ?_
              refine ew_nxt (W (k1 + 1)) hb8 fun a ha => ⟨M1, ?_, ((hl8.trans hl15).trans hl16), hC16⟩
              exact ha.sub ⟨rfl, rfl, rfl, trivial⟩
            · subst hc4
              refine cw_true rfl ?_
              refine cw_seq ?_
              refine cw_region ?_
              refine lw_op rfl rfl rfl (ow_assign rfl rfl ?_)
              refine lw_nil ?_
              refine ew_then ?_
              refine cw_ret ?_
              refine ew_blockR ?_
              refine ew_thenR ?_
              refine ew_thenR ?_
              refine ew_blockR ?_
              refine ew_brkR ?_
              refine ew_thenR ?_
              have e3 := hR1 _ (Option.some.inj hb8).symm
              subst e3
              obtain rfl := Option.some.inj h
              exact ew_ret (res1 rfl (.tmp rfl)) ⟨_, rfl, ((vbool _)), hC16.bx⟩
        · obtain rfl := hbb1.trans hc3
          refine cw_false rfl ?_
          refine cw_exit ?_
          refine ew_thenX ?_
          refine ew_thenX ?_
          refine ew_blockX ?_
          refine ew_brk k1 hb8 fun a ha => ⟨M1, ?_, hl8, hC8⟩
          exact ha.sub ⟨rfl, rfl, rfl, trivial⟩
      · rintro k2 a w17 hlr2 ⟨M2, hF2, hl17, hC17⟩
        subst hlr2
        refine ew_at (E := [(2, (.pointer (some p1))), (3, (.pointer (some p2))), (18, (.int .i64 k2))]) hF2 ?_
        refine ew_then ?_
        refine cw_seq ?_
        refine cw_region ?_
        refine lw_op rfl rfl rfl (ow_assign rfl rfl ?_)
        refine lw_nil ?_
        refine ew_then ?_
        refine cw_ret ?_
        obtain rfl := Option.some.inj h
        exact ew_ret (res1 rfl (.tmp rfl)) ⟨_, rfl, ((vbool _)), hC17.bx⟩

theorem w_impl_BoxSame {w : World} {M : Nat → Prop} (hG : ARep (RArr 4 RShape) w M shapes ⟨0, 0, none⟩) (hO : ∀ b, M b → b < w.heap.size) {v0p : Value} {a_a : Box} (h0 : VRep RBox w M a_a v0p) {v1p : Value} {a_b : Box} (h1 : VRep RBox w M a_b v1p) {r : Bool} (h : F.impl_BoxSame a_a a_b = some r) :
    Calls Tryd.prog 18 [v0p, v1p].toArray w fun e w' => ∃ v, e = .returned v ∧ VRep RBool w' M r v ∧ BX No w w' := by
  have hC : Cx No w M w M := Cx.start hO (fun _ e => e.elim)
  refine walk (N := 18) Tryd.func18 rfl Tryd.ntmps18 rfl ?_
  refine cw_seq ?_
  refine cw_region ?_
  refine lw_op rfl rfl rfl (ow_box (R := RBox) rfl rfl h0 hC fun p1 w1 hp1 hb1 hl1 hC1 => ?_)
  refine lw_op rfl rfl rfl (ow_box (R := RBox) rfl rfl (VRep.mono hl1 h1) hC1 fun p2 w2 hp2 hb2 hl2 hC2 => ?_)
  refine lw_op rfl rfl rfl (ow_assign rfl rfl ?_)
  refine lw_nil ?_
  refine ew_then ?_
  refine cw_seq ?_
  replace h := bind_some h
  obtain ⟨x1, hx1, h⟩ := h
  replace h := cond_some h
  rcases h with ⟨hc1, h⟩ | ⟨hc1, h⟩
  · subst hc1
    replace h := bind_some h
    obtain ⟨x2, hx2, h⟩ := h
    replace h := cond_some h
    rcases h with ⟨hc2, h⟩ | ⟨hc2, h⟩
    · subst hc2
      replace h := bind_some h
      obtain ⟨x3, hx3, h⟩ := h
      refine cw_sub (E' := [(2, (.pointer (some p1))), (3, (.pointer (some p2))), (4, (.bool false))]) ⟨rfl, rfl, rfl, trivial⟩ ?_
      refine cw_drawQ 10 [PV RBox M a_a, PEq (.bool true), PEq (.bool true), PV RBox M a_b, PEq (.bool true), PEq (.bool true), PEq (.bool true), PV RBox M a_a, PV (RArr 4 (RSlice RSpan)) M x3, PV RBox M a_b] (by kernel_rfl) rfl (by kernel_rfl) ⟨PV.mono _ _ _, PEq.mono _, PEq.mono _, PV.mono _ _ _, PEq.mono _, PEq.mono _, PEq.mono _, PV.mono _ _ _, PV.mono _ _ _, PV.mono _ _ _, trivial⟩ ⟨?_, ?_, ?_, ?_, ?_, ?_, ?_, ?_, ?_, ?_, trivial⟩ ?_
      · intro w6 D hS1 hd1
        have hl6 := Le.no M hS1
        have hC6 := hC2.no hS1
        refine dg_sub (E' := [(2, (.pointer (some p1)))]) ⟨rfl, trivial⟩ ?_
        refine dg_plain rfl (ow_load (R := RBox) rfl rfl (ARep.mono (hl2.trans hl6) hp1) (Tryd.sizeOf29 _) (Tryd.isAgg29 _) fun v8 hv8 => ?_)
        exact ⟨BX.refl _ _, hv8⟩
      · intro w7 D hS2 hd2
        have hl7 := Le.no M hS2
        have hC7 := hC2.no hS2
        have hd2 : PV RBox M a_a (D 0) w7 ∧ True := hd2
        obtain ⟨d1, -⟩ := hd2
        obtain ⟨v9, hq1⟩ : ∃ v, (D 0) = v := ⟨_, rfl⟩
        rw [hq1] at d1
        refine dg_sub (E' := [(5, v9)]) ⟨(congrArg some hq1), trivial⟩ ?_
        refine dg_plain rfl (ow_call rfl rfl Tryd.call56 (w_impl_BoxValid (hG.mono ((hl1.trans hl2).trans hl7)) hC7.old d1 hx1) fun v10 w8 hv10 => ?_)
        obtain ⟨hv10, hb6⟩ := hv10
        have hl8 := Le.no M hb6
        have hC8 := hC7.no hb6
        obtain rfl := vbool_eq hv10
        exact ⟨hb6, rfl⟩
      · intro w9 D hS3 hd3
        have hl9 := Le.no M hS3
        have hC9 := hC2.no hS3
        have hd3 : PEq (.bool true) (D 1) w9 ∧ PEq (.bool true) (D 1) w9 ∧ True := hd3
        obtain ⟨d2, d3, -⟩ := hd3
        refine dg_sub (E' := [(6, (.bool true))]) ⟨(congrArg some d2), trivial⟩ ?_
        refine dg_plain rfl (ow_move rfl rfl ?_)
        exact ⟨BX.refl _ _, rfl⟩
      · intro w10 D hS4 hd4
        have hl10 := Le.no M hS4
        have hC10 := hC2.no hS4
        have hd4 : PEq (.bool true) (D 2) w10 ∧ True := hd4
        obtain ⟨d4, -⟩ := hd4
        refine dg_sub (E' := [(7, (.bool true)), (3, (.pointer (some p2)))]) ⟨(congrArg some d4), rfl, trivial⟩ ?_
        refine dg_on rfl rfl rfl rfl (ow_load (R := RBox) rfl rfl (ARep.mono hl10 hp2) (Tryd.sizeOf29 _) (Tryd.isAgg29 _) fun v11 hv11 => ?_)
        exact ⟨BX.refl _ _, hv11⟩
      · intro w11 D hS5 hd5
        have hl11 := Le.no M hS5
        have hC11 := hC2.no hS5
        have hd5 : PV RBox M a_b (D 3) w11 ∧ PEq (.bool true) (D 2) w11 ∧ PEq (.bool true) (D 2) w11 ∧ True := hd5
        obtain ⟨d5, d6, d7, -⟩ := hd5
        obtain ⟨v12, hq2⟩ : ∃ v, (D 3) = v := ⟨_, rfl⟩
        rw [hq2] at d5
        refine dg_sub (E' := [(8, v12), (7, (.bool true))]) ⟨(congrArg some hq2), (congrArg some d6), trivial⟩ ?_
        refine dg_on rfl rfl rfl rfl (ow_call rfl rfl Tryd.call56 (w_impl_BoxValid (hG.mono ((hl1.trans hl2).trans hl11)) hC11.old d5 hx2) fun v13 w12 hv13 => ?_)
        obtain ⟨hv13, hb7⟩ := hv13
        have hl12 := Le.no M hb7
        have hC12 := hC11.no hb7
        obtain rfl := vbool_eq hv13
        exact ⟨hb7, rfl⟩
      · intro w13 D hS6 hd6
        have hl13 := Le.no M hS6
        have hC13 := hC2.no hS6
        have hd6 : PEq (.bool true) (D 2) w13 ∧ PEq (.bool true) (D 4) w13 ∧ True := hd6
        obtain ⟨d8, d9, -⟩ := hd6
        refine dg_sub (E' := [(7, (.bool true)), (9, (.bool true))]) ⟨(congrArg some d8), (congrArg some d9), trivial⟩ ?_
        refine dg_plain rfl (ow_pickT rfl rfl rfl ?_)
        exact ⟨BX.refl _ _, rfl⟩
      · intro w14 D hS7 hd7
        have hl14 := Le.no M hS7
        have hC14 := hC2.no hS7
        have hd7 : PEq (.bool true) (D 5) w14 ∧ PEq (.bool true) (D 4) w14 ∧ True := hd7
        obtain ⟨d10, d11, -⟩ := hd7
        refine dg_sub (E' := [(10, (.bool true))]) ⟨(congrArg some d10), trivial⟩ ?_
        refine dg_plain rfl (ow_move rfl rfl ?_)
        exact ⟨BX.refl _ _, rfl⟩
      · intro w15 D hS8 hd8
        have hl15 := Le.no M hS8
        have hC15 := hC2.no hS8
        have hd8 : PEq (.bool true) (D 6) w15 ∧ True := hd8
        obtain ⟨d12, -⟩ := hd8
        refine dg_sub (E' := [(11, (.bool true)), (2, (.pointer (some p1)))]) ⟨(congrArg some d12), rfl, trivial⟩ ?_
        refine dg_on rfl rfl rfl rfl (ow_load (R := RBox) rfl rfl (ARep.mono (hl2.trans hl15) hp1) (Tryd.sizeOf29 _) (Tryd.isAgg29 _) fun v14 hv14 => ?_)
        exact ⟨BX.refl _ _, hv14⟩
      · intro w16 D hS9 hd9
        have hl16 := Le.no M hS9
        have hC16 := hC2.no hS9
        have hd9 : PV RBox M a_a (D 7) w16 ∧ PEq (.bool true) (D 6) w16 ∧ PEq (.bool true) (D 6) w16 ∧ True := hd9
        obtain ⟨d13, d14, d15, -⟩ := hd9
        obtain ⟨v15, hq3⟩ : ∃ v, (D 7) = v := ⟨_, rfl⟩
        rw [hq3] at d13
        refine dg_sub (E' := [(12, v15), (11, (.bool true))]) ⟨(congrArg some hq3), (congrArg some d14), trivial⟩ ?_
        refine dg_on rfl rfl rfl rfl (ow_call rfl rfl Tryd.call64 (w_impl_sidesOf (hG.mono ((hl1.trans hl2).trans hl16)) hC16.old d13 hx3) fun v16 w17 hv16 => ?_)
        obtain ⟨hv16, hb8⟩ := hv16
        have hl17 := Le.no M hb8
        have hC17 := hC16.no hb8
        exact ⟨hb8, hv16⟩
      · intro w18 D hS10 hd10
        have hl18 := Le.no M hS10
        have hC18 := hC2.no hS10
        have hd10 : PEq (.bool true) (D 6) w18 ∧ True := hd10
        obtain ⟨d16, -⟩ := hd10
        refine dg_sub (E' := [(11, (.bool true)), (3, (.pointer (some p2)))]) ⟨(congrArg some d16), rfl, trivial⟩ ?_
        refine dg_on rfl rfl rfl rfl (ow_load (R := RBox) rfl rfl (ARep.mono hl18 hp2) (Tryd.sizeOf29 _) (Tryd.isAgg29 _) fun v17 hv17 => ?_)
        exact ⟨BX.refl _ _, hv17⟩
      · intro w19 D hS11 hd11
        have hl19 := Le.no M hS11
        have hC19 := hC2.no hS11
        have hd11 : PV RBox M a_a (D 0) w19 ∧ PEq (.bool true) (D 1) w19 ∧ PEq (.bool true) (D 2) w19 ∧ PV RBox M a_b (D 3) w19 ∧ PEq (.bool true) (D 4) w19 ∧ PEq (.bool true) (D 5) w19 ∧ PEq (.bool true) (D 6) w19 ∧ PV RBox M a_a (D 7) w19 ∧ PV (RArr 4 (RSlice RSpan)) M x3 (D 8) w19 ∧ PV RBox M a_b (D 9) w19 ∧ True := hd11
        obtain ⟨-, -, -, -, -, -, d23, -, d25, d26, -⟩ := hd11
        obtain ⟨v18, hq4⟩ : ∃ v, (D 8) = v := ⟨_, rfl⟩
        rw [hq4] at d25
        obtain ⟨v19, hq5⟩ : ∃ v, (D 9) = v := ⟨_, rfl⟩
        rw [hq5] at d26
        refine lw_sub (E' := [(11, (.bool true)), (13, v18), (14, v19), (2, (.pointer (some p1))), (3, (.pointer (some p2))), (4, (.bool false))]) ⟨(congrArg some d23), (congrArg some hq4), (congrArg some hq5), rfl, rfl, rfl, trivial⟩ ?_
        replace h := bind_some h
        obtain ⟨x4, hx4, h⟩ := h
        refine lw_on rfl rfl rfl rfl rfl rfl (ow_call rfl rfl Tryd.call64 (w_impl_sidesOf (hG.mono ((hl1.trans hl2).trans hl19)) hC19.old d26 hx4) fun v20 w20 hv20 => ?_)
        obtain ⟨hv20, hb9⟩ := hv20
        have hl20 := Le.no M hb9
        have hC20 := hC19.no hb9
        replace h := bind_some h
        obtain ⟨x5, hx5, h⟩ := h
        refine lw_on rfl rfl rfl rfl rfl rfl (ow_call rfl rfl Tryd.call65 (w_impl_sides_same (hG.mono (((hl1.trans hl2).trans hl19).trans hl20)) hC20.old (VRep.mono hl20 d25) hv20 hx5) fun v21 w21 hv21 => ?_)
        obtain ⟨hv21, hb10⟩ := hv21
        have hl21 := Le.no M hb10
        have hC21 := hC20.no hb10
        obtain rfl := vbool_eq hv21
        refine lw_op rfl rfl rfl (ow_pickT rfl rfl rfl ?_)
        refine lw_op rfl rfl rfl (ow_assign rfl rfl ?_)
        refine lw_nil ?_
        refine ew_then ?_
        refine cw_ret ?_
        obtain rfl := Option.some.inj h
        exact ew_ret (res1 rfl (.tmp rfl)) ⟨_, rfl, ((vbool _)), hC21.bx⟩
    · subst hc2
      refine cw_sub (E' := [(2, (.pointer (some p1))), (3, (.pointer (some p2))), (4, (.bool false))]) ⟨rfl, rfl, rfl, trivial⟩ ?_
      refine cw_drawQ 10 [PV RBox M a_a, PEq (.bool true), PEq (.bool true), PV RBox M a_b, PEq (.bool false), PEq (.bool false), PEq (.bool false), PEq undef, PEq undef, PEq undef] (by kernel_rfl) rfl (by kernel_rfl) ⟨PV.mono _ _ _, PEq.mono _, PEq.mono _, PV.mono _ _ _, PEq.mono _, PEq.mono _, PEq.mono _, PEq.mono _, PEq.mono _, PEq.mono _, trivial⟩ ⟨?_, ?_, ?_, ?_, ?_, ?_, ?_, ?_, ?_, ?_, trivial⟩ ?_
      · intro w22 D hS12 hd12
        have hl22 := Le.no M hS12
        have hC22 := hC2.no hS12
        refine dg_sub (E' := [(2, (.pointer (some p1)))]) ⟨rfl, trivial⟩ ?_
        refine dg_plain rfl (ow_load (R := RBox) rfl rfl (ARep.mono (hl2.trans hl22) hp1) (Tryd.sizeOf29 _) (Tryd.isAgg29 _) fun v22 hv22 => ?_)
        exact ⟨BX.refl _ _, hv22⟩
      · intro w23 D hS13 hd13
        have hl23 := Le.no M hS13
        have hC23 := hC2.no hS13
        have hd13 : PV RBox M a_a (D 0) w23 ∧ True := hd13
        obtain ⟨d27, -⟩ := hd13
        obtain ⟨v23, hq6⟩ : ∃ v, (D 0) = v := ⟨_, rfl⟩
        rw [hq6] at d27
        refine dg_sub (E' := [(5, v23)]) ⟨(congrArg some hq6), trivial⟩ ?_
        refine dg_plain rfl (ow_call rfl rfl Tryd.call56 (w_impl_BoxValid (hG.mono ((hl1.trans hl2).trans hl23)) hC23.old d27 hx1) fun v24 w24 hv24 => ?_)
        obtain ⟨hv24, hb11⟩ := hv24
        have hl24 := Le.no M hb11
        have hC24 := hC23.no hb11
        obtain rfl := vbool_eq hv24
        exact ⟨hb11, rfl⟩
      · intro w25 D hS14 hd14
        have hl25 := Le.no M hS14
        have hC25 := hC2.no hS14
        have hd14 : PEq (.bool true) (D 1) w25 ∧ PEq (.bool true) (D 1) w25 ∧ True := hd14
        obtain ⟨d28, d29, -⟩ := hd14
        refine dg_sub (E' := [(6, (.bool true))]) ⟨(congrArg some d28), trivial⟩ ?_
        refine dg_plain rfl (ow_move rfl rfl ?_)
        exact ⟨BX.refl _ _, rfl⟩
      · intro w26 D hS15 hd15
        have hl26 := Le.no M hS15
        have hC26 := hC2.no hS15
        have hd15 : PEq (.bool true) (D 2) w26 ∧ True := hd15
        obtain ⟨d30, -⟩ := hd15
        refine dg_sub (E' := [(7, (.bool true)), (3, (.pointer (some p2)))]) ⟨(congrArg some d30), rfl, trivial⟩ ?_
        refine dg_on rfl rfl rfl rfl (ow_load (R := RBox) rfl rfl (ARep.mono hl26 hp2) (Tryd.sizeOf29 _) (Tryd.isAgg29 _) fun v25 hv25 => ?_)
        exact ⟨BX.refl _ _, hv25⟩
      · intro w27 D hS16 hd16
        have hl27 := Le.no M hS16
        have hC27 := hC2.no hS16
        have hd16 : PV RBox M a_b (D 3) w27 ∧ PEq (.bool true) (D 2) w27 ∧ PEq (.bool true) (D 2) w27 ∧ True := hd16
        obtain ⟨d31, d32, d33, -⟩ := hd16
        obtain ⟨v26, hq7⟩ : ∃ v, (D 3) = v := ⟨_, rfl⟩
        rw [hq7] at d31
        refine dg_sub (E' := [(8, v26), (7, (.bool true))]) ⟨(congrArg some hq7), (congrArg some d32), trivial⟩ ?_
        refine dg_on rfl rfl rfl rfl (ow_call rfl rfl Tryd.call56 (w_impl_BoxValid (hG.mono ((hl1.trans hl2).trans hl27)) hC27.old d31 hx2) fun v27 w28 hv27 => ?_)
        obtain ⟨hv27, hb12⟩ := hv27
        have hl28 := Le.no M hb12
        have hC28 := hC27.no hb12
        obtain rfl := vbool_eq hv27
        exact ⟨hb12, rfl⟩
      · intro w29 D hS17 hd17
        have hl29 := Le.no M hS17
        have hC29 := hC2.no hS17
        have hd17 : PEq (.bool true) (D 2) w29 ∧ PEq (.bool false) (D 4) w29 ∧ True := hd17
        obtain ⟨d34, d35, -⟩ := hd17
        refine dg_sub (E' := [(7, (.bool true)), (9, (.bool false))]) ⟨(congrArg some d34), (congrArg some d35), trivial⟩ ?_
        refine dg_plain rfl (ow_pickT rfl rfl rfl ?_)
        exact ⟨BX.refl _ _, rfl⟩
      · intro w30 D hS18 hd18
        have hl30 := Le.no M hS18
        have hC30 := hC2.no hS18
        have hd18 : PEq (.bool false) (D 5) w30 ∧ PEq (.bool false) (D 4) w30 ∧ True := hd18
        obtain ⟨d36, d37, -⟩ := hd18
        refine dg_sub (E' := [(10, (.bool false))]) ⟨(congrArg some d36), trivial⟩ ?_
        refine dg_plain rfl (ow_move rfl rfl ?_)
        exact ⟨BX.refl _ _, rfl⟩
      · intro w31 D hS19 hd19
        have hl31 := Le.no M hS19
        have hC31 := hC2.no hS19
        have hd19 : PEq (.bool false) (D 6) w31 ∧ True := hd19
        obtain ⟨d38, -⟩ := hd19
        refine dg_sub (E' := [(11, (.bool false)), (2, (.pointer (some p1)))]) ⟨(congrArg some d38), rfl, trivial⟩ ?_
        exact dg_off rfl rfl rfl rfl ⟨BX.refl _ _, rfl⟩
      · intro w32 D hS20 hd20
        have hl32 := Le.no M hS20
        have hC32 := hC2.no hS20
        have hd20 : PEq undef (D 7) w32 ∧ PEq (.bool false) (D 6) w32 ∧ PEq (.bool false) (D 6) w32 ∧ True := hd20
        obtain ⟨d39, d40, d41, -⟩ := hd20
        refine dg_sub (E' := [(12, undef), (11, (.bool false))]) ⟨(congrArg some d39), (congrArg some d40), trivial⟩ ?_
        exact dg_off rfl rfl rfl rfl ⟨BX.refl _ _, rfl⟩
      · intro w33 D hS21 hd21
        have hl33 := Le.no M hS21
        have hC33 := hC2.no hS21
        have hd21 : PEq (.bool false) (D 6) w33 ∧ True := hd21
        obtain ⟨d42, -⟩ := hd21
        refine dg_sub (E' := [(11, (.bool false)), (3, (.pointer (some p2)))]) ⟨(congrArg some d42), rfl, trivial⟩ ?_
        exact dg_off rfl rfl rfl rfl ⟨BX.refl _ _, rfl⟩
      · intro w34 D hS22 hd22
        have hl34 := Le.no M hS22
        have hC34 := hC2.no hS22
        have hd22 : PV RBox M a_a (D 0) w34 ∧ PEq (.bool true) (D 1) w34 ∧ PEq (.bool true) (D 2) w34 ∧ PV RBox M a_b (D 3) w34 ∧ PEq (.bool false) (D 4) w34 ∧ PEq (.bool false) (D 5) w34 ∧ PEq (.bool false) (D 6) w34 ∧ PEq undef (D 7) w34 ∧ PEq undef (D 8) w34 ∧ PEq undef (D 9) w34 ∧ True := hd22
        obtain ⟨-, -, -, -, -, -, d49, -, d51, d52, -⟩ := hd22
        refine lw_sub (E' := [(11, (.bool false)), (13, undef), (14, undef), (2, (.pointer (some p1))), (3, (.pointer (some p2))), (4, (.bool false))]) ⟨(congrArg some d49), (congrArg some d51), (congrArg some d52), rfl, rfl, rfl, trivial⟩ ?_
        refine lw_off rfl rfl rfl rfl rfl rfl ?_
        refine lw_off rfl rfl rfl rfl rfl rfl ?_
        refine lw_op rfl rfl rfl (ow_pickF rfl rfl rfl ?_)
        refine lw_op rfl rfl rfl (ow_assign rfl rfl ?_)
        refine lw_nil ?_
        refine ew_then ?_
        refine cw_ret ?_
        obtain rfl := Option.some.inj h
        exact ew_ret (res1 rfl (.tmp rfl)) ⟨_, rfl, ((vbool _)), hC34.bx⟩
  · subst hc1
    refine cw_sub (E' := [(2, (.pointer (some p1))), (3, (.pointer (some p2))), (4, (.bool false))]) ⟨rfl, rfl, rfl, trivial⟩ ?_
    refine cw_drawQ 10 [PV RBox M a_a, PEq (.bool false), PEq (.bool false), PEq undef, PEq undef, PEq (.bool false), PEq (.bool false), PEq undef, PEq undef, PEq undef] (by kernel_rfl) rfl (by kernel_rfl) ⟨PV.mono _ _ _, PEq.mono _, PEq.mono _, PEq.mono _, PEq.mono _, PEq.mono _, PEq.mono _, PEq.mono _, PEq.mono _, PEq.mono _, trivial⟩ ⟨?_, ?_, ?_, ?_, ?_, ?_, ?_, ?_, ?_, ?_, trivial⟩ ?_
    · intro w35 D hS23 hd23
      have hl35 := Le.no M hS23
      have hC35 := hC2.no hS23
      refine dg_sub (E' := [(2, (.pointer (some p1)))]) ⟨rfl, trivial⟩ ?_
      refine dg_plain rfl (ow_load (R := RBox) rfl rfl (ARep.mono (hl2.trans hl35) hp1) (Tryd.sizeOf29 _) (Tryd.isAgg29 _) fun v28 hv28 => ?_)
      exact ⟨BX.refl _ _, hv28⟩
    · intro w36 D hS24 hd24
      have hl36 := Le.no M hS24
      have hC36 := hC2.no hS24
      have hd24 : PV RBox M a_a (D 0) w36 ∧ True := hd24
      obtain ⟨d53, -⟩ := hd24
      obtain ⟨v29, hq8⟩ : ∃ v, (D 0) = v := ⟨_, rfl⟩
      rw [hq8] at d53
      refine dg_sub (E' := [(5, v29)]) ⟨(congrArg some hq8), trivial⟩ ?_
      refine dg_plain rfl (ow_call rfl rfl Tryd.call56 (w_impl_BoxValid (hG.mono ((hl1.trans hl2).trans hl36)) hC36.old d53 hx1) fun v30 w37 hv30 => ?_)
      obtain ⟨hv30, hb13⟩ := hv30
      have hl37 := Le.no M hb13
      have hC37 := hC36.no hb13
      obtain rfl := vbool_eq hv30
      exact ⟨hb13, rfl⟩
    · intro w38 D hS25 hd25
      have hl38 := Le.no M hS25
      have hC38 := hC2.no hS25
      have hd25 : PEq (.bool false) (D 1) w38 ∧ PEq (.bool false) (D 1) w38 ∧ True := hd25
      obtain ⟨d54, d55, -⟩ := hd25
      refine dg_sub (E' := [(6, (.bool false))]) ⟨(congrArg some d54), trivial⟩ ?_
      refine dg_plain rfl (ow_move rfl rfl ?_)
      exact ⟨BX.refl _ _, rfl⟩
    · intro w39 D hS26 hd26
      have hl39 := Le.no M hS26
      have hC39 := hC2.no hS26
      have hd26 : PEq (.bool false) (D 2) w39 ∧ True := hd26
      obtain ⟨d56, -⟩ := hd26
      refine dg_sub (E' := [(7, (.bool false)), (3, (.pointer (some p2)))]) ⟨(congrArg some d56), rfl, trivial⟩ ?_
      exact dg_off rfl rfl rfl rfl ⟨BX.refl _ _, rfl⟩
    · intro w40 D hS27 hd27
      have hl40 := Le.no M hS27
      have hC40 := hC2.no hS27
      have hd27 : PEq undef (D 3) w40 ∧ PEq (.bool false) (D 2) w40 ∧ PEq (.bool false) (D 2) w40 ∧ True := hd27
      obtain ⟨d57, d58, d59, -⟩ := hd27
      refine dg_sub (E' := [(8, undef), (7, (.bool false))]) ⟨(congrArg some d57), (congrArg some d58), trivial⟩ ?_
      exact dg_off rfl rfl rfl rfl ⟨BX.refl _ _, rfl⟩
    · intro w41 D hS28 hd28
      have hl41 := Le.no M hS28
      have hC41 := hC2.no hS28
      have hd28 : PEq (.bool false) (D 2) w41 ∧ PEq undef (D 4) w41 ∧ True := hd28
      obtain ⟨d60, d61, -⟩ := hd28
      refine dg_sub (E' := [(7, (.bool false)), (9, undef)]) ⟨(congrArg some d60), (congrArg some d61), trivial⟩ ?_
      refine dg_plain rfl (ow_pickF rfl rfl rfl ?_)
      exact ⟨BX.refl _ _, rfl⟩
    · intro w42 D hS29 hd29
      have hl42 := Le.no M hS29
      have hC42 := hC2.no hS29
      have hd29 : PEq (.bool false) (D 5) w42 ∧ PEq undef (D 4) w42 ∧ True := hd29
      obtain ⟨d62, d63, -⟩ := hd29
      refine dg_sub (E' := [(10, (.bool false))]) ⟨(congrArg some d62), trivial⟩ ?_
      refine dg_plain rfl (ow_move rfl rfl ?_)
      exact ⟨BX.refl _ _, rfl⟩
    · intro w43 D hS30 hd30
      have hl43 := Le.no M hS30
      have hC43 := hC2.no hS30
      have hd30 : PEq (.bool false) (D 6) w43 ∧ True := hd30
      obtain ⟨d64, -⟩ := hd30
      refine dg_sub (E' := [(11, (.bool false)), (2, (.pointer (some p1)))]) ⟨(congrArg some d64), rfl, trivial⟩ ?_
      exact dg_off rfl rfl rfl rfl ⟨BX.refl _ _, rfl⟩
    · intro w44 D hS31 hd31
      have hl44 := Le.no M hS31
      have hC44 := hC2.no hS31
      have hd31 : PEq undef (D 7) w44 ∧ PEq (.bool false) (D 6) w44 ∧ PEq (.bool false) (D 6) w44 ∧ True := hd31
      obtain ⟨d65, d66, d67, -⟩ := hd31
      refine dg_sub (E' := [(12, undef), (11, (.bool false))]) ⟨(congrArg some d65), (congrArg some d66), trivial⟩ ?_
      exact dg_off rfl rfl rfl rfl ⟨BX.refl _ _, rfl⟩
    · intro w45 D hS32 hd32
      have hl45 := Le.no M hS32
      have hC45 := hC2.no hS32
      have hd32 : PEq (.bool false) (D 6) w45 ∧ True := hd32
      obtain ⟨d68, -⟩ := hd32
      refine dg_sub (E' := [(11, (.bool false)), (3, (.pointer (some p2)))]) ⟨(congrArg some d68), rfl, trivial⟩ ?_
      exact dg_off rfl rfl rfl rfl ⟨BX.refl _ _, rfl⟩
    · intro w46 D hS33 hd33
      have hl46 := Le.no M hS33
      have hC46 := hC2.no hS33
      have hd33 : PV RBox M a_a (D 0) w46 ∧ PEq (.bool false) (D 1) w46 ∧ PEq (.bool false) (D 2) w46 ∧ PEq undef (D 3) w46 ∧ PEq undef (D 4) w46 ∧ PEq (.bool false) (D 5) w46 ∧ PEq (.bool false) (D 6) w46 ∧ PEq undef (D 7) w46 ∧ PEq undef (D 8) w46 ∧ PEq undef (D 9) w46 ∧ True := hd33
      obtain ⟨-, -, -, -, -, -, d75, -, d77, d78, -⟩ := hd33
      refine lw_sub (E' := [(11, (.bool false)), (13, undef), (14, undef), (2, (.pointer (some p1))), (3, (.pointer (some p2))), (4, (.bool false))]) ⟨(congrArg some d75), (congrArg some d77), (congrArg some d78), rfl, rfl, rfl, trivial⟩ ?_
      refine lw_off rfl rfl rfl rfl rfl rfl ?_
      refine lw_off rfl rfl rfl rfl rfl rfl ?_
      refine lw_op rfl rfl rfl (ow_pickF rfl rfl rfl ?_)
      refine lw_op rfl rfl rfl (ow_assign rfl rfl ?_)
      refine lw_nil ?_
      refine ew_then ?_
      refine cw_ret ?_
      obtain rfl := Option.some.inj h
      exact ew_ret (res1 rfl (.tmp rfl)) ⟨_, rfl, ((vbool _)), hC46.bx⟩

theorem w_laws_eqSpan {w : World} {M : Nat → Prop} (_hG : ARep (RArr 4 RShape) w M shapes ⟨0, 0, none⟩) (hO : ∀ b, M b → b < w.heap.size) {v0p : Value} {a_a : Span} (h0 : VRep RSpan w M a_a v0p) {v1p : Value} {a_b : Span} (h1 : VRep RSpan w M a_b v1p) {r : Bool} (h : F.laws_eqSpan a_a a_b = some r) :
    Calls Tryd.prog 146 [v0p, v1p].toArray w fun e w' => ∃ v, e = .returned v ∧ VRep RBool w' M r v ∧ BX No w w' := by
  have hC : Cx No w M w M := Cx.start hO (fun _ e => e.elim)
  clear _hG
  refine walk (N := 15) Tryd.func146 rfl Tryd.ntmps146 rfl ?_
  refine cw_seq ?_
  refine cw_region ?_
  refine lw_op rfl rfl rfl (ow_box (R := RSpan) rfl rfl h0 hC fun p1 w1 hp1 hb1 hl1 hC1 => ?_)
  refine lw_op rfl rfl rfl (ow_box (R := RSpan) rfl rfl (VRep.mono hl1 h1) hC1 fun p2 w2 hp2 hb2 hl2 hC2 => ?_)
  refine lw_op rfl rfl rfl (ow_assign rfl rfl ?_)
  refine lw_nil ?_
  refine ew_then ?_
  refine cw_seq ?_
  refine cw_seq ?_
  refine cw_region ?_
  refine lw_op rfl rfl rfl (ow_fieldAddr rfl rfl Tryd.underlying140 rfl (Tryd.sizeOf3 _) ?_)
  refine lw_op rfl rfl rfl (ow_load (R := RInt) rfl rfl (ARep.mono hl2 (hp1.fld fld_Span_Lo)) (Tryd.sizeOf3 _) (Tryd.isAgg3 _) fun v1 hv1 => ?_)
  obtain rfl := vint_eq hv1
  refine lw_op rfl rfl rfl (ow_fieldAddr rfl rfl Tryd.underlying140 rfl (Tryd.sizeOf3 _) ?_)
  refine lw_op rfl rfl rfl (ow_load (R := RInt) rfl rfl (hp2.fld fld_Span_Lo) (Tryd.sizeOf3 _) (Tryd.isAgg3 _) fun v2 hv2 => ?_)
  obtain rfl := vint_eq hv2
  refine lw_op rfl rfl rfl (ow_neqI rfl rfl rfl fun bb1 hbb1 => ?_)
  refine lw_nil ?_
  refine ew_then ?_
  replace h := cond_some h
  rcases h with ⟨hc1, h⟩ | ⟨hc1, h⟩
  · obtain rfl := hbb1.trans hc1
    refine cw_true rfl ?_
    refine cw_seq ?_
    refine cw_region ?_
    refine lw_op rfl rfl rfl (ow_assign rfl rfl ?_)
    refine lw_nil ?_
    refine ew_then ?_
    refine cw_ret ?_
    refine ew_thenR ?_
    obtain rfl := Option.some.inj h
    exact ew_ret (res1 rfl (.tmp rfl)) ⟨_, rfl, ((vbool _)), hC2.bx⟩
  · obtain rfl := hbb1.trans hc1
    refine cw_false rfl ?_
    refine cw_skip ?_
    refine ew_then ?_
    refine cw_seq ?_
    refine cw_seq ?_
    refine cw_region ?_
    refine lw_op rfl rfl rfl (ow_fieldAddr rfl rfl Tryd.underlying140 rfl (Tryd.sizeOf3 _) ?_)
    refine lw_op rfl rfl rfl (ow_load (R := RInt) rfl rfl (ARep.mono hl2 (hp1.fld fld_Span_Hi)) (Tryd.sizeOf3 _) (Tryd.isAgg3 _) fun v3 hv3 => ?_)
    obtain rfl := vint_eq hv3
    refine lw_op rfl rfl rfl (ow_fieldAddr rfl rfl Tryd.underlying140 rfl (Tryd.sizeOf3 _) ?_)
    refine lw_op rfl rfl rfl (ow_load (R := RInt) rfl rfl (hp2.fld fld_Span_Hi) (Tryd.sizeOf3 _) (Tryd.isAgg3 _) fun v4 hv4 => ?_)
    obtain rfl := vint_eq hv4
    refine lw_op rfl rfl rfl (ow_neqI rfl rfl rfl fun bb2 hbb2 => ?_)
    refine lw_nil ?_
    refine ew_then ?_
    replace h := cond_some h
    rcases h with ⟨hc2, h⟩ | ⟨hc2, h⟩
    · obtain rfl := hbb2.trans hc2
      refine cw_true rfl ?_
      refine cw_seq ?_
      refine cw_region ?_
      refine lw_op rfl rfl rfl (ow_assign rfl rfl ?_)
      refine lw_nil ?_
      refine ew_then ?_
      refine cw_ret ?_
      refine ew_thenR ?_
      obtain rfl := Option.some.inj h
      exact ew_ret (res1 rfl (.tmp rfl)) ⟨_, rfl, ((vbool _)), hC2.bx⟩
    · obtain rfl := hbb2.trans hc2
      refine cw_false rfl ?_
      refine cw_skip ?_
      refine ew_then ?_
      refine cw_seq ?_
      refine cw_region ?_
      refine lw_op rfl rfl rfl (ow_assign rfl rfl ?_)
      refine lw_nil ?_
      refine ew_then ?_
      refine cw_ret ?_
      obtain rfl := Option.some.inj h
      exact ew_ret (res1 rfl (.tmp rfl)) ⟨_, rfl, ((vbool _)), hC2.bx⟩

theorem w_laws_eqSpanS {w : World} {M : Nat → Prop} (hG : ARep (RArr 4 RShape) w M shapes ⟨0, 0, none⟩) (hO : ∀ b, M b → b < w.heap.size) {v0p : Value} {a_a : List Span} (h0 : VRep (RSlice RSpan) w M a_a v0p) {v1p : Value} {a_b : List Span} (h1 : VRep (RSlice RSpan) w M a_b v1p) {r : Bool} (h : F.laws_eqSpanS a_a a_b = some r) :
    Calls Tryd.prog 116 [v0p, v1p].toArray w fun e w' => ∃ v, e = .returned v ∧ VRep RBool w' M r v ∧ BX No w w' := by
  have hC : Cx No w M w M := Cx.start hO (fun _ e => e.elim)
  refine walk (N := 27) Tryd.func116 rfl Tryd.ntmps116 rfl ?_
  refine cw_seq ?_
  refine cw_region ?_
  refine lw_op rfl rfl rfl (ow_assign rfl rfl ?_)
  refine lw_nil ?_
  refine ew_then ?_
  refine cw_seq ?_
  refine cw_seq ?_
  refine cw_region ?_
  refine lw_op rfl rfl rfl (ow_move rfl rfl ?_)
  refine lw_op rfl rfl rfl (ow_len rfl rfl h0 Tryd.underlying93 rfl ?_)
  refine lw_op rfl rfl rfl (ow_move rfl rfl ?_)
  refine lw_op rfl rfl rfl (ow_len rfl rfl h1 Tryd.underlying93 rfl ?_)
  refine lw_op rfl rfl rfl (ow_neqI rfl rfl rfl fun bb1 hbb1 => ?_)
  refine lw_nil ?_
  refine ew_then ?_
  replace h := cond_some h
  rcases h with ⟨hc1, h⟩ | ⟨hc1, h⟩
  · obtain rfl := hbb1.trans hc1
    refine cw_true rfl ?_
    refine cw_seq ?_
    refine cw_region ?_
    refine lw_op rfl rfl rfl (ow_assign rfl rfl ?_)
    refine lw_nil ?_
    refine ew_then ?_
    refine cw_ret ?_
    refine ew_thenR ?_
    obtain rfl := Option.some.inj h
    exact ew_ret (res1 rfl (.tmp rfl)) ⟨_, rfl, ((vbool _)), hC.bx⟩
  · obtain rfl := hbb1.trans hc1
    refine cw_false rfl ?_
    refine cw_skip ?_
    refine ew_then ?_
    refine cw_seq ?_
    refine cw_seq ?_
    refine cw_region ?_
    refine lw_op rfl rfl rfl (ow_assign rfl rfl ?_)
    refine lw_nil ?_
    refine ew_then ?_
    replace h := bind_some h
    obtain ⟨lr1, hlr1, h⟩ := h
    refine cw_for hlr1 (fun s a w' => ∃ (M' : Nat → Prop), Fits 27 [(0, v0p), (1, v1p), (5, (.int .i64 s))] a ∧ Le w M w' M' ∧ Cx No w M w' M') ?_ ?_ ?_
    · intro a ha
      exact ⟨M, ha.sub ⟨rfl, rfl, rfl, trivial⟩, Le.refl _ _, hC⟩
    · rintro k1 a w1 sr1 ⟨M1, hF1, hl1, hC1⟩ hb1 hR1
      refine cw_at (E := [(0, v0p), (1, v1p), (5, (.int .i64 k1))]) hF1 ?_
      refine cw_seq ?_
      refine cw_seq ?_
      refine cw_region ?_
      refine lw_op rfl rfl rfl (ow_move rfl rfl ?_)
      refine lw_op rfl rfl rfl (ow_move rfl rfl ?_)
      refine lw_op rfl rfl rfl (ow_len rfl rfl (VRep.mono hl1 h0) Tryd.underlying93 rfl ?_)
      refine lw_op rfl rfl rfl (ow_lss rfl rfl rfl fun bb2 hbb2 => ?_)
      refine lw_nil ?_
      refine ew_then ?_
      replace hb1 := cond_some hb1
      rcases hb1 with ⟨hc2, hb1⟩ | ⟨hc2, hb1⟩
      · obtain rfl := hbb2.trans hc2
        refine cw_true rfl ?_
        refine cw_skip ?_
        refine ew_then ?_
        refine cw_seq ?_
        refine cw_block ?_
        refine cw_seq ?_
        replace hb1 := bind_some hb1
        obtain ⟨x1, hx1, hb1⟩ := hb1
        replace hb1 := bind_some hb1
        obtain ⟨x2, hx2, hb1⟩ := hb1
        refine cw_sub (E' := [(0, v0p), (1, v1p), (5, (.int .i64 k1))]) ⟨rfl, rfl, rfl, trivial⟩ ?_
        refine cw_drawQ 8 [PV (RSlice RSpan) M1 a_a, PEq (.int .i64 k1), PA RSpan M1 x1, PV RSpan M1 x1, PV (RSlice RSpan) M1 a_b, PEq (.int .i64 k1), PA RSpan M1 x2, PV RSpan M1 x2] (by kernel_rfl) rfl (by kernel_rfl) ⟨PV.mono _ _ _, PEq.mono _, PA.mono _ _ _, PV.mono _ _ _, PV.mono _ _ _, PEq.mono _, PA.mono _ _ _, PV.mono _ _ _, trivial⟩ ⟨?_, ?_, ?_, ?_, ?_, ?_, ?_, ?_, trivial⟩ ?_
        · intro w2 D hS1 hd1
          have hl2 := Le.no M1 hS1
          have hC2 := hC1.no hS1
          refine dg_sub (E' := [(0, v0p)]) ⟨rfl, trivial⟩ ?_
          refine dg_plain rfl (ow_move rfl rfl ?_)
          exact ⟨BX.refl _ _, (VRep.mono (hl1.trans hl2) h0)⟩
        · intro w3 D hS2 hd2
          have hl3 := Le.no M1 hS2
          have hC3 := hC1.no hS2
          refine dg_sub (E' := [(5, (.int .i64 k1))]) ⟨rfl, trivial⟩ ?_
          refine dg_plain rfl (ow_move rfl rfl ?_)
          exact ⟨BX.refl _ _, rfl⟩
        · intro w4 D hS3 hd3
          have hl4 := Le.no M1 hS3
          have hC4 := hC1.no hS3
          have hd3 : PV (RSlice RSpan) M1 a_a (D 0) w4 ∧ PEq (.int .i64 k1) (D 1) w4 ∧ True := hd3
          obtain ⟨d1, d2, -⟩ := hd3
          obtain ⟨v4, hq1⟩ : ∃ v, (D 0) = v := ⟨_, rfl⟩
          rw [hq1] at d1
          refine dg_sub (E' := [(17, v4), (18, (.int .i64 k1))]) ⟨(congrArg some hq1), (congrArg some d2), trivial⟩ ?_
          refine dg_plain rfl (ow_indexSlice (R := RSpan) rfl rfl rfl d1 Tryd.underlying93 (Tryd.sizeOf140 _) hx1 fun p3 hp3 => ?_)
          exact ⟨BX.refl _ _, ⟨_, rfl, hp3⟩⟩
        · intro w5 D hS4 hd4
          have hl5 := Le.no M1 hS4
          have hC5 := hC1.no hS4
          have hd4 : PA RSpan M1 x1 (D 2) w5 ∧ True := hd4
          obtain ⟨d3, -⟩ := hd4
          obtain ⟨p4, e1, ha1⟩ := d3
          refine dg_sub (E' := [(19, (.pointer (some p4)))]) ⟨(congrArg some e1), trivial⟩ ?_
          refine dg_plain rfl (ow_load (R := RSpan) rfl rfl ha1 (Tryd.sizeOf140 _) (Tryd.isAgg140 _) fun v5 hv5 => ?_)
          exact ⟨BX.refl _ _, hv5⟩
        · intro w6 D hS5 hd5
          have hl6 := Le.no M1 hS5
          have hC6 := hC1.no hS5
          refine dg_sub (E' := [(1, v1p)]) ⟨rfl, trivial⟩ ?_
          refine dg_plain rfl (ow_move rfl rfl ?_)
          exact ⟨BX.refl _ _, (VRep.mono (hl1.trans hl6) h1)⟩
        · intro w7 D hS6 hd6
          have hl7 := Le.no M1 hS6
          have hC7 := hC1.no hS6
          refine dg_sub (E' := [(5, (.int .i64 k1))]) ⟨rfl, trivial⟩ ?_
          refine dg_plain rfl (ow_move rfl rfl ?_)
          exact ⟨BX.refl _ _, rfl⟩
        · intro w8 D hS7 hd7
          have hl8 := Le.no M1 hS7
          have hC8 := hC1.no hS7
          have hd7 : PV (RSlice RSpan) M1 a_b (D 4) w8 ∧ PEq (.int .i64 k1) (D 5) w8 ∧ True := hd7
          obtain ⟨d4, d5, -⟩ := hd7
          obtain ⟨v6, hq2⟩ : ∃ v, (D 4) = v := ⟨_, rfl⟩
          rw [hq2] at d4
          refine dg_sub (E' := [(21, v6), (22, (.int .i64 k1))]) ⟨(congrArg some hq2), (congrArg some d5), trivial⟩ ?_
          refine dg_plain rfl (ow_indexSlice (R := RSpan) rfl rfl rfl d4 Tryd.underlying93 (Tryd.sizeOf140 _) hx2 fun p5 hp5 => ?_)
          exact ⟨BX.refl _ _, ⟨_, rfl, hp5⟩⟩
        · intro w9 D hS8 hd8
          have hl9 := Le.no M1 hS8
          have hC9 := hC1.no hS8
          have hd8 : PA RSpan M1 x2 (D 6) w9 ∧ True := hd8
          obtain ⟨d6, -⟩ := hd8
          obtain ⟨p6, e2, ha2⟩ := d6
          refine dg_sub (E' := [(23, (.pointer (some p6)))]) ⟨(congrArg some e2), trivial⟩ ?_
          refine dg_plain rfl (ow_load (R := RSpan) rfl rfl ha2 (Tryd.sizeOf140 _) (Tryd.isAgg140 _) fun v7 hv7 => ?_)
          exact ⟨BX.refl _ _, hv7⟩
        · intro w10 D hS9 hd9
          have hl10 := Le.no M1 hS9
          have hC10 := hC1.no hS9
          have hd9 : PV (RSlice RSpan) M1 a_a (D 0) w10 ∧ PEq (.int .i64 k1) (D 1) w10 ∧ PA RSpan M1 x1 (D 2) w10 ∧ PV RSpan M1 x1 (D 3) w10 ∧ PV (RSlice RSpan) M1 a_b (D 4) w10 ∧ PEq (.int .i64 k1) (D 5) w10 ∧ PA RSpan M1 x2 (D 6) w10 ∧ PV RSpan M1 x2 (D 7) w10 ∧ True := hd9
          obtain ⟨-, -, -, d10, -, -, -, d14, -⟩ := hd9
          obtain ⟨v8, hq3⟩ : ∃ v, (D 3) = v := ⟨_, rfl⟩
          rw [hq3] at d10
          obtain ⟨v9, hq4⟩ : ∃ v, (D 7) = v := ⟨_, rfl⟩
          rw [hq4] at d14
          refine lw_sub (E' := [(20, v8), (24, v9), (0, v0p), (1, v1p), (5, (.int .i64 k1))]) ⟨(congrArg some hq3), (congrArg some hq4), rfl, rfl, rfl, trivial⟩ ?_
          replace hb1 := bind_some hb1
          obtain ⟨x3, hx3, hb1⟩ := hb1
          refine lw_op rfl rfl rfl (ow_call rfl rfl Tryd.call146 (w_laws_eqSpan (hG.mono (hl1.trans hl10)) hC10.old d10 d14 hx3) fun v10 w11 hv10 => ?_)
          obtain ⟨hv10, hb2⟩ := hv10
          have hl11 := Le.no M1 hb2
          have hC11 := hC10.no hb2
          obtain rfl := vbool_eq hv10
          refine lw_op rfl rfl rfl (ow_not rfl rfl ?_)
          refine lw_nil ?_
          refine ew_then ?_
          replace hb1 := cond_some hb1
          rcases hb1 with ⟨hc3, hb1⟩ | ⟨hc3, hb1⟩
          · subst hc3
            refine cw_false rfl ?_
            refine cw_skip ?_
            refine ew_blockN ?_
            refine ew_then ?_
            refine cw_region ?_
            refine lw_op rfl rfl rfl (ow_move rfl rfl ?_)
            refine lw_op rfl rfl rfl (ow_add rfl rfl rfl ?_)
            refine lw_op rfl rfl rfl (ow_assign rfl rfl ?_)
            refine lw_nil ?_
            refine ew_nxt (W (k1 + 1)) hb1 fun a ha => ⟨M1, ?_, ((hl1.trans hl10).trans hl11), hC11⟩
            exact ha.sub ⟨rfl, rfl, rfl, trivial⟩
          · subst hc3
            refine cw_true rfl ?_
            refine cw_seq ?_
            refine cw_region ?_
            refine lw_op rfl rfl rfl (ow_assign rfl rfl ?_)
            refine lw_nil ?_
            refine ew_then ?_
            refine cw_ret ?_
            refine ew_blockR ?_
            refine ew_thenR ?_
            refine ew_thenR ?_
            refine ew_blockR ?_
            refine ew_brkR ?_
            refine ew_thenR ?_
            have e3 := hR1 _ (Option.some.inj hb1).symm
            subst e3
            obtain rfl := Option.some.inj h
            exact ew_ret (res1 rfl (.tmp rfl)) ⟨_, rfl, ((vbool _)), hC11.bx⟩
      · obtain rfl := hbb2.trans hc2
        refine cw_false rfl ?_
        refine cw_exit ?_
        refine ew_thenX ?_
        refine ew_thenX ?_
        refine ew_blockX ?_
        refine ew_brk k1 hb1 fun a ha => ⟨M1, ?_, hl1, hC1⟩
        exact ha.sub ⟨rfl, rfl, rfl, trivial⟩
    · rintro k2 a w12 hlr2 ⟨M2, hF2, hl12, hC12⟩
      subst hlr2
      refine ew_at (E := [(0, v0p), (1, v1p), (5, (.int .i64 k2))]) hF2 ?_
      refine ew_then ?_
      refine cw_seq ?_
      refine cw_region ?_
      refine lw_op rfl rfl rfl (ow_assign rfl rfl ?_)
      refine lw_nil ?_
      refine ew_then ?_
      refine cw_ret ?_
      obtain rfl := Option.some.inj h
      exact ew_ret (res1 rfl (.tmp rfl)) ⟨_, rfl, ((vbool _)), hC12.bx⟩

theorem w_laws_eqSpanSS {w : World} {M : Nat → Prop} (hG : ARep (RArr 4 RShape) w M shapes ⟨0, 0, none⟩) (hO : ∀ b, M b → b < w.heap.size) {v0p : Value} {a_a : List (List Span)} (h0 : VRep (RSlice (RSlice RSpan)) w M a_a v0p) {v1p : Value} {a_b : List (List Span)} (h1 : VRep (RSlice (RSlice RSpan)) w M a_b v1p) {r : Bool} (h : F.laws_eqSpanSS a_a a_b = some r) :
    Calls Tryd.prog 66 [v0p, v1p].toArray w fun e w' => ∃ v, e = .returned v ∧ VRep RBool w' M r v ∧ BX No w w' := by
  have hC : Cx No w M w M := Cx.start hO (fun _ e => e.elim)
  refine walk (N := 27) Tryd.func66 rfl Tryd.ntmps66 rfl ?_
  refine cw_seq ?_
  refine cw_region ?_
  refine lw_op rfl rfl rfl (ow_assign rfl rfl ?_)
  refine lw_nil ?_
  refine ew_then ?_
  refine cw_seq ?_
  refine cw_seq ?_
  refine cw_region ?_
  refine lw_op rfl rfl rfl (ow_move rfl rfl ?_)
  refine lw_op rfl rfl rfl (ow_len rfl rfl h0 Tryd.underlying27 rfl ?_)
  refine lw_op rfl rfl rfl (ow_move rfl rfl ?_)
  refine lw_op rfl rfl rfl (ow_len rfl rfl h1 Tryd.underlying27 rfl ?_)
  refine lw_op rfl rfl rfl (ow_neqI rfl rfl rfl fun bb1 hbb1 => ?_)
  refine lw_nil ?_
  refine ew_then ?_
  replace h := cond_some h
  rcases h with ⟨hc1, h⟩ | ⟨hc1, h⟩
  · obtain rfl := hbb1.trans hc1
    refine cw_true rfl ?_
    refine cw_seq ?_
    refine cw_region ?_
    refine lw_op rfl rfl rfl (ow_assign rfl rfl ?_)
    refine lw_nil ?_
    refine ew_then ?_
    refine cw_ret ?_
    refine ew_thenR ?_
    obtain rfl := Option.some.inj h
    exact ew_ret (res1 rfl (.tmp rfl)) ⟨_, rfl, ((vbool _)), hC.bx⟩
  · obtain rfl := hbb1.trans hc1
    refine cw_false rfl ?_
    refine cw_skip ?_
    refine ew_then ?_
    refine cw_seq ?_
    refine cw_seq ?_
    refine cw_region ?_
    refine lw_op rfl rfl rfl (ow_assign rfl rfl ?_)
    refine lw_nil ?_
    refine ew_then ?_
    replace h := bind_some h
    obtain ⟨lr1, hlr1, h⟩ := h
    refine cw_for hlr1 (fun s a w' => ∃ (M' : Nat → Prop), Fits 27 [(0, v0p), (1, v1p), (5, (.int .i64 s))] a ∧ Le w M w' M' ∧ Cx No w M w' M') ?_ ?_ ?_
    · intro a ha
      exact ⟨M, ha.sub ⟨rfl, rfl, rfl, trivial⟩, Le.refl _ _, hC⟩
    · rintro k1 a w1 sr1 ⟨M1, hF1, hl1, hC1⟩ hb1 hR1
      refine cw_at (E := [(0, v0p), (1, v1p), (5, (.int .i64 k1))]) hF1 ?_
      refine cw_seq ?_
      refine cw_seq ?_
      refine cw_region ?_
      refine lw_op rfl rfl rfl (ow_move rfl rfl ?_)
      refine lw_op rfl rfl rfl (ow_move rfl rfl ?_)
      refine lw_op rfl rfl rfl (ow_len rfl rfl (VRep.mono hl1 h0) Tryd.underlying27 rfl ?_)
      refine lw_op rfl rfl rfl (ow_lss rfl rfl rfl fun bb2 hbb2 => ?_)
      refine lw_nil ?_
      refine ew_then ?_
      replace hb1 := cond_some hb1
      rcases hb1 with ⟨hc2, hb1⟩ | ⟨hc2, hb1⟩
      · obtain rfl := hbb2.trans hc2
        refine cw_true rfl ?_
        refine cw_skip ?_
        refine ew_then ?_
        refine cw_seq ?_
        refine cw_block ?_
        refine cw_seq ?_
        replace hb1 := bind_some hb1
        obtain ⟨x1, hx1, hb1⟩ := hb1
        replace hb1 := bind_some hb1
        obtain ⟨x2, hx2, hb1⟩ := hb1
        refine cw_sub (E' := [(0, v0p), (1, v1p), (5, (.int .i64 k1))]) ⟨rfl, rfl, rfl, trivial⟩ ?_
        refine cw_drawQ 8 [PV (RSlice (RSlice RSpan)) M1 a_a, PEq (.int .i64 k1), PA (RSlice RSpan) M1 x1, PV (RSlice RSpan) M1 x1, PV (RSlice (RSlice RSpan)) M1 a_b, PEq (.int .i64 k1), PA (RSlice RSpan) M1 x2, PV (RSlice RSpan) M1 x2] (by kernel_rfl) rfl (by kernel_rfl) ⟨PV.mono _ _ _, PEq.mono _, PA.mono _ _ _, PV.mono _ _ _, PV.mono _ _ _, PEq.mono _, PA.mono _ _ _, PV.mono _ _ _, trivial⟩ ⟨?_, ?_, ?_, ?_, ?_, ?_, ?_, ?_, trivial⟩ ?_
        · intro w2 D hS1 hd1
          have hl2 := Le.no M1 hS1
          have hC2 := hC1.no hS1
          refine dg_sub (E' := [(0, v0p)]) ⟨rfl, trivial⟩ ?_
          refine dg_plain rfl (ow_move rfl rfl ?_)
          exact ⟨BX.refl _ _, (VRep.mono (hl1.trans hl2) h0)⟩
        · intro w3 D hS2 hd2
          have hl3 := Le.no M1 hS2
          have hC3 := hC1.no hS2
          refine dg_sub (E' := [(5, (.int .i64 k1))]) ⟨rfl, trivial⟩ ?_
          refine dg_plain rfl (ow_move rfl rfl ?_)
          exact ⟨BX.refl _ _, rfl⟩
        · intro w4 D hS3 hd3
          have hl4 := Le.no M1 hS3
          have hC4 := hC1.no hS3
          have hd3 : PV (RSlice (RSlice RSpan)) M1 a_a (D 0) w4 ∧ PEq (.int .i64 k1) (D 1) w4 ∧ True := hd3
          obtain ⟨d1, d2, -⟩ := hd3
          obtain ⟨v4, hq1⟩ : ∃ v, (D 0) = v := ⟨_, rfl⟩
          rw [hq1] at d1
          refine dg_sub (E' := [(17, v4), (18, (.int .i64 k1))]) ⟨(congrArg some hq1), (congrArg some d2), trivial⟩ ?_
          refine dg_plain rfl (ow_indexSlice (R := (RSlice RSpan)) rfl rfl rfl d1 Tryd.underlying27 (Tryd.sizeOf93 _) hx1 fun p3 hp3 => ?_)
          exact ⟨BX.refl _ _, ⟨_, rfl, hp3⟩⟩
        · intro w5 D hS4 hd4
          have hl5 := Le.no M1 hS4
          have hC5 := hC1.no hS4
          have hd4 : PA (RSlice RSpan) M1 x1 (D 2) w5 ∧ True := hd4
          obtain ⟨d3, -⟩ := hd4
          obtain ⟨p4, e1, ha1⟩ := d3
          refine dg_sub (E' := [(19, (.pointer (some p4)))]) ⟨(congrArg some e1), trivial⟩ ?_
          refine dg_plain rfl (ow_load (R := (RSlice RSpan)) rfl rfl ha1 (Tryd.sizeOf93 _) (Tryd.isAgg93 _) fun v5 hv5 => ?_)
          exact ⟨BX.refl _ _, hv5⟩
        · intro w6 D hS5 hd5
          have hl6 := Le.no M1 hS5
          have hC6 := hC1.no hS5
          refine dg_sub (E' := [(1, v1p)]) ⟨rfl, trivial⟩ ?_
          refine dg_plain rfl (ow_move rfl rfl ?_)
          exact ⟨BX.refl _ _, (VRep.mono (hl1.trans hl6) h1)⟩
        · intro w7 D hS6 hd6
          have hl7 := Le.no M1 hS6
          have hC7 := hC1.no hS6
          refine dg_sub (E' := [(5, (.int .i64 k1))]) ⟨rfl, trivial⟩ ?_
          refine dg_plain rfl (ow_move rfl rfl ?_)
          exact ⟨BX.refl _ _, rfl⟩
        · intro w8 D hS7 hd7
          have hl8 := Le.no M1 hS7
          have hC8 := hC1.no hS7
          have hd7 : PV (RSlice (RSlice RSpan)) M1 a_b (D 4) w8 ∧ PEq (.int .i64 k1) (D 5) w8 ∧ True := hd7
          obtain ⟨d4, d5, -⟩ := hd7
          obtain ⟨v6, hq2⟩ : ∃ v, (D 4) = v := ⟨_, rfl⟩
          rw [hq2] at d4
          refine dg_sub (E' := [(21, v6), (22, (.int .i64 k1))]) ⟨(congrArg some hq2), (congrArg some d5), trivial⟩ ?_
          refine dg_plain rfl (ow_indexSlice (R := (RSlice RSpan)) rfl rfl rfl d4 Tryd.underlying27 (Tryd.sizeOf93 _) hx2 fun p5 hp5 => ?_)
          exact ⟨BX.refl _ _, ⟨_, rfl, hp5⟩⟩
        · intro w9 D hS8 hd8
          have hl9 := Le.no M1 hS8
          have hC9 := hC1.no hS8
          have hd8 : PA (RSlice RSpan) M1 x2 (D 6) w9 ∧ True := hd8
          obtain ⟨d6, -⟩ := hd8
          obtain ⟨p6, e2, ha2⟩ := d6
          refine dg_sub (E' := [(23, (.pointer (some p6)))]) ⟨(congrArg some e2), trivial⟩ ?_
          refine dg_plain rfl (ow_load (R := (RSlice RSpan)) rfl rfl ha2 (Tryd.sizeOf93 _) (Tryd.isAgg93 _) fun v7 hv7 => ?_)
          exact ⟨BX.refl _ _, hv7⟩
        · intro w10 D hS9 hd9
          have hl10 := Le.no M1 hS9
          have hC10 := hC1.no hS9
          have hd9 : PV (RSlice (RSlice RSpan)) M1 a_a (D 0) w10 ∧ PEq (.int .i64 k1) (D 1) w10 ∧ PA (RSlice RSpan) M1 x1 (D 2) w10 ∧ PV (RSlice RSpan) M1 x1 (D 3) w10 ∧ PV (RSlice (RSlice RSpan)) M1 a_b (D 4) w10 ∧ PEq (.int .i64 k1) (D 5) w10 ∧ PA (RSlice RSpan) M1 x2 (D 6) w10 ∧ PV (RSlice RSpan) M1 x2 (D 7) w10 ∧ True := hd9
          obtain ⟨-, -, -, d10, -, -, -, d14, -⟩ := hd9
          obtain ⟨v8, hq3⟩ : ∃ v, (D 3) = v := ⟨_, rfl⟩
          rw [hq3] at d10
          obtain ⟨v9, hq4⟩ : ∃ v, (D 7) = v := ⟨_, rfl⟩
          rw [hq4] at d14
          refine lw_sub (E' := [(20, v8), (24, v9), (0, v0p), (1, v1p), (5, (.int .i64 k1))]) ⟨(congrArg some hq3), (congrArg some hq4), rfl, rfl, rfl, trivial⟩ ?_
          replace hb1 := bind_some hb1
          obtain ⟨x3, hx3, hb1⟩ := hb1
          refine lw_op rfl rfl rfl (ow_call rfl rfl Tryd.call116 (w_laws_eqSpanS (hG.mono (hl1.trans hl10)) hC10.old d10 d14 hx3) fun v10 w11 hv10 => ?_)
          obtain ⟨hv10, hb2⟩ := hv10
          have hl11 := Le.no M1 hb2
          have hC11 := hC10.no hb2
          obtain rfl := vbool_eq hv10
          refine lw_op rfl rfl rfl (ow_not rfl rfl ?_)
          refine lw_nil ?_
          refine ew_then ?_
          replace hb1 := cond_some hb1
          rcases hb1 with ⟨hc3, hb1⟩ | ⟨hc3, hb1⟩
          · subst hc3
            refine cw_false rfl ?_
            refine cw_skip ?_
            refine ew_blockN ?_
            refine ew_then ?_
            refine cw_region ?_
            refine lw_op rfl rfl rfl (ow_move rfl rfl ?_)
            refine lw_op rfl rfl rfl (ow_add rfl rfl rfl ?_)
            refine lw_op rfl rfl rfl (ow_assign rfl rfl ?_)
            refine lw_nil ?_
            refine ew_nxt (W (k1 + 1)) hb1 fun a ha => ⟨M1, ?_, ((hl1.trans hl10).trans hl11), hC11⟩
            exact ha.sub ⟨rfl, rfl, rfl, trivial⟩
          · subst hc3
            refine cw_true rfl ?_
            refine cw_seq ?_
            refine cw_region ?_
            refine lw_op rfl rfl rfl (ow_assign rfl rfl ?_)
            refine lw_nil ?_
            refine ew_then ?_
            refine cw_ret ?_
            refine ew_blockR ?_
            refine ew_thenR ?_
            refine ew_thenR ?_
            refine ew_blockR ?_
            refine ew_brkR ?_
            refine ew_thenR ?_
            have e3 := hR1 _ (Option.some.inj hb1).symm
            subst e3
            obtain rfl := Option.some.inj h
            exact ew_ret (res1 rfl (.tmp rfl)) ⟨_, rfl, ((vbool _)), hC11.bx⟩
      · obtain rfl := hbb2.trans hc2
        refine cw_false rfl ?_
        refine cw_exit ?_
        refine ew_thenX ?_
        refine ew_thenX ?_
        refine ew_blockX ?_
        refine ew_brk k1 hb1 fun a ha => ⟨M1, ?_, hl1, hC1⟩
        exact ha.sub ⟨rfl, rfl, rfl, trivial⟩
    · rintro k2 a w12 hlr2 ⟨M2, hF2, hl12, hC12⟩
      subst hlr2
      refine ew_at (E := [(0, v0p), (1, v1p), (5, (.int .i64 k2))]) hF2 ?_
      refine ew_then ?_
      refine cw_seq ?_
      refine cw_region ?_
      refine lw_op rfl rfl rfl (ow_assign rfl rfl ?_)
      refine lw_nil ?_
      refine ew_then ?_
      refine cw_ret ?_
      obtain rfl := Option.some.inj h
      exact ew_ret (res1 rfl (.tmp rfl)) ⟨_, rfl, ((vbool _)), hC12.bx⟩

theorem w_laws_eqBox {w : World} {M : Nat → Prop} (hG : ARep (RArr 4 RShape) w M shapes ⟨0, 0, none⟩) (hO : ∀ b, M b → b < w.heap.size) {v0p : Value} {a_a : Box} (h0 : VRep RBox w M a_a v0p) {v1p : Value} {a_b : Box} (h1 : VRep RBox w M a_b v1p) {r : Bool} (h : F.laws_eqBox a_a a_b = some r) :
    Calls Tryd.prog 19 [v0p, v1p].toArray w fun e w' => ∃ v, e = .returned v ∧ VRep RBool w' M r v ∧ BX No w w' := by
  have hC : Cx No w M w M := Cx.start hO (fun _ e => e.elim)
  refine walk (N := 11) Tryd.func19 rfl Tryd.ntmps19 rfl ?_
  refine cw_seq ?_
  refine cw_region ?_
  refine lw_op rfl rfl rfl (ow_box (R := RBox) rfl rfl h0 hC fun p1 w1 hp1 hb1 hl1 hC1 => ?_)
  refine lw_op rfl rfl rfl (ow_box (R := RBox) rfl rfl (VRep.mono hl1 h1) hC1 fun p2 w2 hp2 hb2 hl2 hC2 => ?_)
  refine lw_op rfl rfl rfl (ow_assign rfl rfl ?_)
  refine lw_nil ?_
  refine ew_then ?_
  refine cw_seq ?_
  refine cw_seq ?_
  refine cw_region ?_
  refine lw_op rfl rfl rfl (ow_fieldAddr rfl rfl Tryd.underlying29 rfl (Tryd.sizeOf27 _) ?_)
  refine lw_op rfl rfl rfl (ow_load (R := (RSlice (RSlice RSpan))) rfl rfl (ARep.mono hl2 (hp1.fld fld_Box_Sides)) (Tryd.sizeOf27 _) (Tryd.isAgg27 _) fun v1 hv1 => ?_)
  refine lw_op rfl rfl rfl (ow_fieldAddr rfl rfl Tryd.underlying29 rfl (Tryd.sizeOf27 _) ?_)
  refine lw_op rfl rfl rfl (ow_load (R := (RSlice (RSlice RSpan))) rfl rfl (hp2.fld fld_Box_Sides) (Tryd.sizeOf27 _) (Tryd.isAgg27 _) fun v2 hv2 => ?_)
  replace h := bind_some h
  obtain ⟨x1, hx1, h⟩ := h
  refine lw_op rfl rfl rfl (ow_call rfl rfl Tryd.call66 (w_laws_eqSpanSS (hG.mono (hl1.trans hl2)) hC2.old hv1 hv2 hx1) fun v3 w3 hv3 => ?_)
  obtain ⟨hv3, hb3⟩ := hv3
  have hl3 := Le.no M hb3
  have hC3 := hC2.no hb3
  obtain rfl := vbool_eq hv3
  refine lw_op rfl rfl rfl (ow_not rfl rfl ?_)
  refine lw_nil ?_
  refine ew_then ?_
  replace h := cond_some h
  rcases h with ⟨hc1, h⟩ | ⟨hc1, h⟩
  · subst hc1
    refine cw_false rfl ?_
    refine cw_skip ?_
    refine ew_then ?_
    refine cw_seq ?_
    refine cw_region ?_
    refine lw_op rfl rfl rfl (ow_assign rfl rfl ?_)
    refine lw_nil ?_
    refine ew_then ?_
    refine cw_ret ?_
    obtain rfl := Option.some.inj h
    exact ew_ret (res1 rfl (.tmp rfl)) ⟨_, rfl, ((vbool _)), hC3.bx⟩
  · subst hc1
    refine cw_true rfl ?_
    refine cw_seq ?_
    refine cw_region ?_
    refine lw_op rfl rfl rfl (ow_assign rfl rfl ?_)
    refine lw_nil ?_
    refine ew_then ?_
    refine cw_ret ?_
    refine ew_thenR ?_
    obtain rfl := Option.some.inj h
    exact ew_ret (res1 rfl (.tmp rfl)) ⟨_, rfl, ((vbool _)), hC3.bx⟩

theorem w_laws_FnExactBoxSame {w : World} {M : Nat → Prop} (hG : ARep (RArr 4 RShape) w M shapes ⟨0, 0, none⟩) (hO : ∀ b, M b → b < w.heap.size) {v0p : Value} {a_aA : Box} (h0 : VRep RBox w M a_aA v0p) {v1p : Value} {a_aB : Box} (h1 : VRep RBox w M a_aB v1p) {r : Bool} (h : F.laws_FnExactBoxSame a_aA a_aB = some r) :
    Calls Tryd.prog 3 [v0p, v1p].toArray w fun e w' => ∃ v, e = .returned v ∧ VRep RBool w' M r v ∧ BX No w w' := by
  have hC : Cx No w M w M := Cx.start hO (fun _ e => e.elim)
  refine walk (N := 45) Tryd.func3 rfl Tryd.ntmps3 rfl ?_
  refine cw_seq ?_
  refine cw_region ?_
  refine lw_op rfl rfl rfl (ow_box (R := RBox) rfl rfl h0 hC fun p1 w1 hp1 hb1 hl1 hC1 => ?_)
  refine lw_op rfl rfl rfl (ow_box (R := RBox) rfl rfl (VRep.mono hl1 h1) hC1 fun p2 w2 hp2 hb2 hl2 hC2 => ?_)
  refine lw_op rfl rfl rfl (ow_assign rfl rfl ?_)
  refine lw_nil ?_
  refine ew_then ?_
  refine cw_seq ?_
  refine cw_region ?_
  refine lw_op rfl rfl rfl (ow_assign rfl rfl ?_)
  refine lw_nil ?_
  refine ew_then ?_
  refine cw_seq ?_
  refine cw_region ?_
  refine lw_op rfl rfl rfl (ow_load (R := RBox) rfl rfl (ARep.mono hl2 hp1) (Tryd.sizeOf24 _) (Tryd.isAgg24 _) fun v1 hv1 => ?_)
  refine lw_op rfl rfl rfl (ow_move rfl rfl ?_)
  replace h := bind_some h
  obtain ⟨x1, hx1, h⟩ := h
  refine lw_op rfl rfl rfl (ow_call rfl rfl Tryd.call15 (w_laws_szBox (hG.mono (hl1.trans hl2)) hC2.old hv1 hx1) fun v2 w3 hv2 => ?_)
  obtain ⟨hv2, hb3⟩ := hv2
  have hl3 := Le.no M hb3
  have hC3 := hC2.no hb3
  obtain rfl := vint_eq hv2
  refine lw_op rfl rfl rfl (ow_assign rfl rfl ?_)
  refine lw_nil ?_
  refine ew_then ?_
  refine cw_seq ?_
  refine cw_seq ?_
  refine cw_region ?_
  refine lw_op rfl rfl rfl (ow_move rfl rfl ?_)
  refine lw_op rfl rfl rfl (ow_lss rfl rfl rfl fun bb1 hbb1 => ?_)
  refine lw_nil ?_
  refine ew_then ?_
  replace h := cond_some h
  rcases h with ⟨hc1, h⟩ | ⟨hc1, h⟩
  · obtain rfl := hbb1.trans hc1
    refine cw_true rfl ?_
    refine cw_seq ?_
    refine cw_region ?_
    refine lw_op rfl rfl rfl (ow_assign rfl rfl ?_)
    refine lw_nil ?_
    refine ew_then ?_
    refine cw_ret ?_
    refine ew_thenR ?_
    obtain rfl := Option.some.inj h
    exact ew_ret (res1 rfl (.tmp rfl)) ⟨_, rfl, ((vbool _)), hC3.bx⟩
  · obtain rfl := hbb1.trans hc1
    refine cw_false rfl ?_
    refine cw_skip ?_
    refine ew_then ?_
    refine cw_seq ?_
    refine cw_region ?_
    refine lw_op rfl rfl rfl (ow_load (R := RBox) rfl rfl (ARep.mono hl3 hp2) (Tryd.sizeOf24 _) (Tryd.isAgg24 _) fun v3 hv3 => ?_)
    refine lw_op rfl rfl rfl (ow_move rfl rfl ?_)
    replace h := bind_some h
    obtain ⟨x2, hx2, h⟩ := h
    refine lw_op rfl rfl rfl (ow_call rfl rfl Tryd.call15 (w_laws_szBox (hG.mono ((hl1.trans hl2).trans hl3)) hC3.old hv3 hx2) fun v4 w4 hv4 => ?_)
    obtain ⟨hv4, hb4⟩ := hv4
    have hl4 := Le.no M hb4
    have hC4 := hC3.no hb4
    obtain rfl := vint_eq hv4
    refine lw_op rfl rfl rfl (ow_assign rfl rfl ?_)
    refine lw_nil ?_
    refine ew_then ?_
    refine cw_seq ?_
    refine cw_seq ?_
    refine cw_region ?_
    refine lw_op rfl rfl rfl (ow_move rfl rfl ?_)
    refine lw_op rfl rfl rfl (ow_lss rfl rfl rfl fun bb2 hbb2 => ?_)
    refine lw_nil ?_
    refine ew_then ?_
    replace h := cond_some h
    rcases h with ⟨hc2, h⟩ | ⟨hc2, h⟩
    · obtain rfl := hbb2.trans hc2
      refine cw_true rfl ?_
      refine cw_seq ?_
      refine cw_region ?_
      refine lw_op rfl rfl rfl (ow_assign rfl rfl ?_)
      refine lw_nil ?_
      refine ew_then ?_
      refine cw_ret ?_
      refine ew_thenR ?_
      obtain rfl := Option.some.inj h
      exact ew_ret (res1 rfl (.tmp rfl)) ⟨_, rfl, ((vbool _)), hC4.bx⟩
    · obtain rfl := hbb2.trans hc2
      refine cw_false rfl ?_
      refine cw_skip ?_
      refine ew_then ?_
      refine cw_seq ?_
      replace h := bind_some h
      obtain ⟨x3, hx3, h⟩ := h
      refine cw_sub (E' := [(2, (.pointer (some p1))), (3, (.pointer (some p2))), (4, (.bool false))]) ⟨rfl, rfl, rfl, trivial⟩ ?_
      refine cw_drawQ 3 [PV RBox M a_aA, PV RBox M x3, PV RBox M a_aB] (by kernel_rfl) rfl (by kernel_rfl) ⟨PV.mono _ _ _, PV.mono _ _ _, PV.mono _ _ _, trivial⟩ ⟨?_, ?_, ?_, trivial⟩ ?_
      · intro w6 D hS1 hd1
        have hl6 := Le.no M hS1
        have hC6 := hC4.no hS1
        refine dg_sub (E' := [(2, (.pointer (some p1)))]) ⟨rfl, trivial⟩ ?_
        refine dg_plain rfl (ow_load (R := RBox) rfl rfl (ARep.mono (((hl2.trans hl3).trans hl4).trans hl6) hp1) (Tryd.sizeOf24 _) (Tryd.isAgg24 _) fun v8 hv8 => ?_)
        exact ⟨BX.refl _ _, hv8⟩
      · intro w7 D hS2 hd2
        have hl7 := Le.no M hS2
        have hC7 := hC4.no hS2
        have hd2 : PV RBox M a_aA (D 0) w7 ∧ True := hd2
        obtain ⟨d1, -⟩ := hd2
        obtain ⟨v9, hq1⟩ : ∃ v, (D 0) = v := ⟨_, rfl⟩
        rw [hq1] at d1
        refine dg_sub (E' := [(20, v9)]) ⟨(congrArg some hq1), trivial⟩ ?_
        refine dg_plain rfl (ow_call rfl rfl Tryd.call17 (w_laws_toBox (hG.mono ((((hl1.trans hl2).trans hl3).trans hl4).trans hl7)) hC7.old d1 hx3) fun v10 w8 hv10 => ?_)
        obtain ⟨hv10, hb6⟩ := hv10
        have hl8 := Le.no M hb6
        have hC8 := hC7.no hb6
        exact ⟨hb6, hv10⟩
      · intro w9 D hS3 hd3
        have hl9 := Le.no M hS3
        have hC9 := hC4.no hS3
        refine dg_sub (E' := [(3, (.pointer (some p2)))]) ⟨rfl, trivial⟩ ?_
        refine dg_plain rfl (ow_load (R := RBox) rfl rfl (ARep.mono ((hl3.trans hl4).trans hl9) hp2) (Tryd.sizeOf24 _) (Tryd.isAgg24 _) fun v11 hv11 => ?_)
        exact ⟨BX.refl _ _, hv11⟩
      · intro w10 D hS4 hd4
        have hl10 := Le.no M hS4
        have hC10 := hC4.no hS4
        have hd4 : PV RBox M a_aA (D 0) w10 ∧ PV RBox M x3 (D 1) w10 ∧ PV RBox M a_aB (D 2) w10 ∧ True := hd4
        obtain ⟨-, d3, d4, -⟩ := hd4
        obtain ⟨v12, hq2⟩ : ∃ v, (D 1) = v := ⟨_, rfl⟩
        rw [hq2] at d3
        obtain ⟨v13, hq3⟩ : ∃ v, (D 2) = v := ⟨_, rfl⟩
        rw [hq3] at d4
        refine lw_sub (E' := [(21, v12), (22, v13), (2, (.pointer (some p1))), (3, (.pointer (some p2))), (4, (.bool false))]) ⟨(congrArg some hq2), (congrArg some hq3), rfl, rfl, rfl, trivial⟩ ?_
        replace h := bind_some h
        obtain ⟨x4, hx4, h⟩ := h
        refine lw_op rfl rfl rfl (ow_call rfl rfl Tryd.call17 (w_laws_toBox (hG.mono ((((hl1.trans hl2).trans hl3).trans hl4).trans hl10)) hC10.old d4 hx4) fun v14 w11 hv14 => ?_)
        obtain ⟨hv14, hb7⟩ := hv14
        have hl11 := Le.no M hb7
        have hC11 := hC10.no hb7
        replace h := bind_some h
        obtain ⟨x5, hx5, h⟩ := h
        refine lw_op rfl rfl rfl (ow_call rfl rfl Tryd.call16 (w_spec_BoxSame (hG.mono (((((hl1.trans hl2).trans hl3).trans hl4).trans hl10).trans hl11)) hC11.old (VRep.mono hl11 d3) hv14 hx5) fun v15 w12 hv15 => ?_)
        obtain ⟨hv15, hb8⟩ := hv15
        have hl12 := Le.no M hb8
        have hC12 := hC11.no hb8
        obtain rfl := vbool_eq hv15
        refine lw_op rfl rfl rfl (ow_assign rfl rfl ?_)
        refine lw_nil ?_
        refine ew_then ?_
        refine cw_seq ?_
        refine cw_region ?_
        refine lw_op rfl rfl rfl (ow_load (R := RBox) rfl rfl (ARep.mono (((((hl2.trans hl3).trans hl4).trans hl10).trans hl11).trans hl12) hp1) (Tryd.sizeOf24 _) (Tryd.isAgg24 _) fun v16 hv16 => ?_)
        refine lw_op rfl rfl rfl (ow_call rfl rfl Tryd.call17 (w_laws_toBox (hG.mono ((((((hl1.trans hl2).trans hl3).trans hl4).trans hl10).trans hl11).trans hl12)) hC12.old hv16 hx3) fun v17 w13 hv17 => ?_)
        obtain ⟨hv17, hb9⟩ := hv17
        have hl13 := Le.no M hb9
        have hC13 := hC12.no hb9
        refine lw_allocStore (R := RBox) rfl rfl rfl rfl rfl rfl rfl Tryd.zeroValue29 Tryd.sizeOf29 rfl rfl rfl (by simp) hv17 hC13 fun p3 w14 hp3 hb10 hl14 hC14 => ?_
        refine lw_nil ?_
        refine ew_then ?_
        refine cw_seq ?_
        refine cw_region ?_
        refine lw_op rfl rfl rfl (ow_load (R := RBox) rfl rfl (ARep.mono ((((((hl3.trans hl4).trans hl10).trans hl11).trans hl12).trans hl13).trans hl14) hp2) (Tryd.sizeOf24 _) (Tryd.isAgg24 _) fun v18 hv18 => ?_)
        refine lw_op rfl rfl rfl (ow_call rfl rfl Tryd.call17 (w_laws_toBox (hG.mono ((((((((hl1.trans hl2).trans hl3).trans hl4).trans hl10).trans hl11).trans hl12).trans hl13).trans hl14)) hC14.old hv18 hx4) fun v19 w15 hv19 => ?_)
        obtain ⟨hv19, hb11⟩ := hv19
        have hl15 := Le.no M hb11
        have hC15 := hC14.no hb11
        refine lw_allocStore (R := RBox) rfl rfl rfl rfl rfl rfl rfl Tryd.zeroValue29 Tryd.sizeOf29 rfl rfl rfl (by simp) hv19 hC15 fun p4 w16 hp4 hb12 hl16 hC16 => ?_
        refine lw_nil ?_
        refine ew_then ?_
        refine cw_seq ?_
        refine cw_region ?_
        refine lw_op rfl rfl rfl (ow_load (R := RBox) rfl rfl (ARep.mono (hl15.trans hl16) hp3) (Tryd.sizeOf29 _) (Tryd.isAgg29 _) fun v20 hv20 => ?_)
        refine lw_op rfl rfl rfl (ow_load (R := RBox) rfl rfl hp4 (Tryd.sizeOf29 _) (Tryd.isAgg29 _) fun v21 hv21 => ?_)
        replace h := bind_some h
        obtain ⟨x6, hx6, h⟩ := h
        refine lw_op rfl rfl rfl (ow_call rfl rfl Tryd.call18 (w_impl_BoxSame (hG.mono ((((((((((hl1.trans hl2).trans hl3).trans hl4).trans hl10).trans hl11).trans hl12).trans hl13).trans hl14).trans hl15).trans hl16)) hC16.old hv20 hv21 hx6) fun v22 w17 hv22 => ?_)
        obtain ⟨hv22, hb13⟩ := hv22
        have hl17 := Le.no M hb13
        have hC17 := hC16.no hb13
        obtain rfl := vbool_eq hv22
        refine lw_op rfl rfl rfl (ow_assign rfl rfl ?_)
        refine lw_nil ?_
        refine ew_then ?_
        refine cw_seq ?_
        refine cw_seq ?_
        refine cw_region ?_
        refine lw_op rfl rfl rfl (ow_move rfl rfl ?_)
        refine lw_op rfl rfl rfl (ow_move rfl rfl ?_)
        refine lw_op rfl rfl rfl (ow_neqB rfl rfl rfl Tryd.underlying4 fun bb3 hbb3 => ?_)
        refine lw_nil ?_
        refine ew_then ?_
        replace h := cond_some h
        rcases h with ⟨hc3, h⟩ | ⟨hc3, h⟩
        · obtain rfl := hbb3.trans hc3
          refine cw_true rfl ?_
          refine cw_seq ?_
          refine cw_region ?_
          refine lw_op rfl rfl rfl (ow_assign rfl rfl ?_)
          refine lw_nil ?_
          refine ew_then ?_
          refine cw_ret ?_
          refine ew_thenR ?_
          obtain rfl := Option.some.inj h
          exact ew_ret (res1 rfl (.tmp rfl)) ⟨_, rfl, ((vbool _)), hC17.bx⟩
        · obtain rfl := hbb3.trans hc3
          refine cw_false rfl ?_
          refine cw_skip ?_
          refine ew_then ?_
          refine cw_seq ?_
          refine cw_seq ?_
          refine cw_sub (E' := [(2, (.pointer (some p1))), (3, (.pointer (some p2))), (4, (.bool false)), (7, (.pointer (some p3))), (8, (.pointer (some p4)))]) ⟨rfl, rfl, rfl, rfl, rfl, trivial⟩ ?_
          refine cw_drawQ 3 [PV RBox M x3, PV RBox M a_aA, PV RBox M x3] (by kernel_rfl) rfl (by kernel_rfl) ⟨PV.mono _ _ _, PV.mono _ _ _, PV.mono _ _ _, trivial⟩ ⟨?_, ?_, ?_, trivial⟩ ?_
          · intro w19 D hS5 hd5
            have hl19 := Le.no M hS5
            have hC19 := hC17.no hS5
            refine dg_sub (E' := [(7, (.pointer (some p3)))]) ⟨rfl, trivial⟩ ?_
            refine dg_plain rfl (ow_load (R := RBox) rfl rfl (ARep.mono (((hl15.trans hl16).trans hl17).trans hl19) hp3) (Tryd.sizeOf29 _) (Tryd.isAgg29 _) fun v26 hv26 => ?_)
            exact ⟨BX.refl _ _, hv26⟩
          · intro w20 D hS6 hd6
            have hl20 := Le.no M hS6
            have hC20 := hC17.no hS6
            refine dg_sub (E' := [(2, (.pointer (some p1)))]) ⟨rfl, trivial⟩ ?_
            refine dg_plain rfl (ow_load (R := RBox) rfl rfl (ARep.mono (((((((((((hl2.trans hl3).trans hl4).trans hl10).trans hl11).trans hl12).trans hl13).trans hl14).trans hl15).trans hl16).trans hl17).trans hl20) hp1) (Tryd.sizeOf24 _) (Tryd.isAgg24 _) fun v27 hv27 => ?_)
            exact ⟨BX.refl _ _, hv27⟩
          · intro w21 D hS7 hd7
            have hl21 := Le.no M hS7
            have hC21 := hC17.no hS7
            have hd7 : PV RBox M a_aA (D 1) w21 ∧ True := hd7
            obtain ⟨d5, -⟩ := hd7
            obtain ⟨v28, hq4⟩ : ∃ v, (D 1) = v := ⟨_, rfl⟩
            rw [hq4] at d5
            refine dg_sub (E' := [(36, v28)]) ⟨(congrArg some hq4), trivial⟩ ?_
            refine dg_plain rfl (ow_call rfl rfl Tryd.call17 (w_laws_toBox (hG.mono ((((((((((((hl1.trans hl2).trans hl3).trans hl4).trans hl10).trans hl11).trans hl12).trans hl13).trans hl14).trans hl15).trans hl16).trans hl17).trans hl21)) hC21.old d5 hx3) fun v29 w22 hv29 => ?_)
            obtain ⟨hv29, hb15⟩ := hv29
            have hl22 := Le.no M hb15
            have hC22 := hC21.no hb15
            exact ⟨hb15, hv29⟩
          · intro w23 D hS8 hd8
            have hl23 := Le.no M hS8
            have hC23 := hC17.no hS8
            have hd8 : PV RBox M x3 (D 0) w23 ∧ PV RBox M a_aA (D 1) w23 ∧ PV RBox M x3 (D 2) w23 ∧ True := hd8
            obtain ⟨d6, -, d8, -⟩ := hd8
            obtain ⟨v30, hq5⟩ : ∃ v, (D 0) = v := ⟨_, rfl⟩
            rw [hq5] at d6
            obtain ⟨v31, hq6⟩ : ∃ v, (D 2) = v := ⟨_, rfl⟩
            rw [hq6] at d8
            refine lw_sub (E' := [(35, v30), (37, v31), (2, (.pointer (some p1))), (3, (.pointer (some p2))), (4, (.bool false)), (7, (.pointer (some p3))), (8, (.pointer (some p4)))]) ⟨(congrArg some hq5), (congrArg some hq6), rfl, rfl, rfl, rfl, rfl, trivial⟩ ?_
            replace h := bind_some h
            obtain ⟨x7, hx7, h⟩ := h
            refine lw_op rfl rfl rfl (ow_call rfl rfl Tryd.call19 (w_laws_eqBox (hG.mono ((((((((((((hl1.trans hl2).trans hl3).trans hl4).trans hl10).trans hl11).trans hl12).trans hl13).trans hl14).trans hl15).trans hl16).trans hl17).trans hl23)) hC23.old d6 d8 hx7) fun v32 w24 hv32 => ?_)
            obtain ⟨hv32, hb16⟩ := hv32
            have hl24 := Le.no M hb16
            have hC24 := hC23.no hb16
            obtain rfl := vbool_eq hv32
            refine lw_op rfl rfl rfl (ow_not rfl rfl ?_)
            refine lw_nil ?_
            refine ew_then ?_
            replace h := cond_some h
            rcases h with ⟨hc4, h⟩ | ⟨hc4, h⟩
            · subst hc4
              refine cw_false rfl ?_
              refine cw_skip ?_
              refine ew_then ?_
              refine cw_seq ?_
              refine cw_seq ?_
              refine cw_sub (E' := [(3, (.pointer (some p2))), (4, (.bool false)), (8, (.pointer (some p4)))]) ⟨rfl, rfl, rfl, trivial⟩ ?_
              refine cw_drawQ 3 [PV RBox M x4, PV RBox M a_aB, PV RBox M x4] (by kernel_rfl) rfl (by kernel_rfl) ⟨PV.mono _ _ _, PV.mono _ _ _, PV.mono _ _ _, trivial⟩ ⟨?_, ?_, ?_, trivial⟩ ?_
              · intro w26 D hS9 hd9
                have hl26 := Le.no M hS9
                have hC26 := hC24.no hS9
                refine dg_sub (E' := [(8, (.pointer (some p4)))]) ⟨rfl, trivial⟩ ?_
                refine dg_plain rfl (ow_load (R := RBox) rfl rfl (ARep.mono (((hl17.trans hl23).trans hl24).trans hl26) hp4) (Tryd.sizeOf29 _) (Tryd.isAgg29 _) fun v36 hv36 => ?_)
                exact ⟨BX.refl _ _, hv36⟩
              · intro w27 D hS10 hd10
                have hl27 := Le.no M hS10
                have hC27 := hC24.no hS10
                refine dg_sub (E' := [(3, (.pointer (some p2)))]) ⟨rfl, trivial⟩ ?_
                refine dg_plain rfl (ow_load (R := RBox) rfl rfl (ARep.mono ((((((((((((hl3.trans hl4).trans hl10).trans hl11).trans hl12).trans hl13).trans hl14).trans hl15).trans hl16).trans hl17).trans hl23).trans hl24).trans hl27) hp2) (Tryd.sizeOf24 _) (Tryd.isAgg24 _) fun v37 hv37 => ?_)
                exact ⟨BX.refl _ _, hv37⟩
              · intro w28 D hS11 hd11
                have hl28 := Le.no M hS11
                have hC28 := hC24.no hS11
                have hd11 : PV RBox M a_aB (D 1) w28 ∧ True := hd11
                obtain ⟨d9, -⟩ := hd11
                obtain ⟨v38, hq7⟩ : ∃ v, (D 1) = v := ⟨_, rfl⟩
                rw [hq7] at d9
                refine dg_sub (E' := [(41, v38)]) ⟨(congrArg some hq7), trivial⟩ ?_
                refine dg_plain rfl (ow_call rfl rfl Tryd.call17 (w_laws_toBox (hG.mono ((((((((((((((hl1.trans hl2).trans hl3).trans hl4).trans hl10).trans hl11).trans hl12).trans hl13).trans hl14).trans hl15).trans hl16).trans hl17).trans hl23).trans hl24).trans hl28)) hC28.old d9 hx4) fun v39 w29 hv39 => ?_)
                obtain ⟨hv39, hb18⟩ := hv39
                have hl29 := Le.no M hb18
                have hC29 := hC28.no hb18
                exact ⟨hb18, hv39⟩
              · intro w30 D hS12 hd12
                have hl30 := Le.no M hS12
                have hC30 := hC24.no hS12
                have hd12 : PV RBox M x4 (D 0) w30 ∧ PV RBox M a_aB (D 1) w30 ∧ PV RBox M x4 (D 2) w30 ∧ True := hd12
                obtain ⟨d10, -, d12, -⟩ := hd12
                obtain ⟨v40, hq8⟩ : ∃ v, (D 0) = v := ⟨_, rfl⟩
                rw [hq8] at d10
                obtain ⟨v41, hq9⟩ : ∃ v, (D 2) = v := ⟨_, rfl⟩
                rw [hq9] at d12
                refine lw_sub (E' := [(40, v40), (42, v41), (3, (.pointer (some p2))), (4, (.bool false)), (8, (.pointer (some p4)))]) ⟨(congrArg some hq8), (congrArg some hq9), rfl, rfl, rfl, trivial⟩ ?_
                replace h := bind_some h
                obtain ⟨x8, hx8, h⟩ := h
                refine lw_op rfl rfl rfl (ow_call rfl rfl Tryd.call19 (w_laws_eqBox (hG.mono ((((((((((((((hl1.trans hl2).trans hl3).trans hl4).trans hl10).trans hl11).trans hl12).trans hl13).trans hl14).trans hl15).trans hl16).trans hl17).trans hl23).trans hl24).trans hl30)) hC30.old d10 d12 hx8) fun v42 w31 hv42 => ?_)
                obtain ⟨hv42, hb19⟩ := hv42
                have hl31 := Le.no M hb19
                have hC31 := hC30.no hb19
                obtain rfl := vbool_eq hv42
                refine lw_op rfl rfl rfl (ow_not rfl rfl ?_)
                refine lw_nil ?_
                refine ew_then ?_
                replace h := cond_some h
                rcases h with ⟨hc5, h⟩ | ⟨hc5, h⟩
                · subst hc5
                  refine cw_false rfl ?_
                  refine cw_skip ?_
                  refine ew_then ?_
                  refine cw_seq ?_
                  refine cw_region ?_
                  refine lw_op rfl rfl rfl (ow_assign rfl rfl ?_)
                  refine lw_nil ?_
                  refine ew_then ?_
                  refine cw_ret ?_
                  obtain rfl := Option.some.inj h
                  exact ew_ret (res1 rfl (.tmp rfl)) ⟨_, rfl, ((vbool _)), hC31.bx⟩
                · subst hc5
                  refine cw_true rfl ?_
                  refine cw_seq ?_
                  refine cw_region ?_
                  refine lw_op rfl rfl rfl (ow_assign rfl rfl ?_)
                  refine lw_nil ?_
                  refine ew_then ?_
                  refine cw_ret ?_
                  refine ew_thenR ?_
                  obtain rfl := Option.some.inj h
                  exact ew_ret (res1 rfl (.tmp rfl)) ⟨_, rfl, ((vbool _)), hC31.bx⟩
            · subst hc4
              refine cw_true rfl ?_
              refine cw_seq ?_
              refine cw_region ?_
              refine lw_op rfl rfl rfl (ow_assign rfl rfl ?_)
              refine lw_nil ?_
              refine ew_then ?_
              refine cw_ret ?_
              refine ew_thenR ?_
              obtain rfl := Option.some.inj h
              exact ew_ret (res1 rfl (.tmp rfl)) ⟨_, rfl, ((vbool _)), hC24.bx⟩


end Go.PF
