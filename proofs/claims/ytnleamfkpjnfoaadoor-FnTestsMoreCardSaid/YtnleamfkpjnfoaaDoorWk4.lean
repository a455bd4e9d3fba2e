/- The walks; no condition. -/
import Derived.Test.YtnleamfkpjnfoaaDoorProg
import Derived.Test.YtnleamfkpjnfoaaDoorWk3
import Derived.Test.YtnleamfkpjnfoaaDoorPFNew
set_option maxRecDepth 100000
set_option maxHeartbeats 4000000
namespace Go.PF
open Go Go.RowKit Go.Proofs

theorem w_impl_BoxMeet {w : World} {M : Nat → Prop} (hG : ARep (RArr 4 RShape) w M shapes ⟨0, 0, none⟩) (hO : ∀ b, M b → b < w.heap.size) {v0p : Value} {a_a : Box} (h0 : VRep RBox w M a_a v0p) {v1p : Value} {a_b : Box} (h1 : VRep RBox w M a_b v1p) {r : Box} (h : F.impl_BoxMeet a_a a_b = some r) :
  Calls Tryd.prog 28 [v0p, v1p].toArray w fun e w' => ∃ v, e = .returned v ∧ VRep RBox w' M r v ∧ BX No w w' := by
 have hC : Cx No w M w M := Cx.start hO (fun _ e => e.elim)
 refine walk (N := 29) Tryd.func28 rfl Tryd.ntmps28 rfl ?_
 refine cw_seq (cw_region (lw_op rfl rfl rfl (ow_box (R := RBox) rfl rfl h0 hC fun p1 w1 hp1 hb1 hl1 hC1 => ?_)))
 refine lw_op rfl rfl rfl (ow_box (R := RBox) rfl rfl (VRep.mono hl1 h1) hC1 fun p2 w2 hp2 hb2 hl2 hC2 => ?_)
 refine lw_op rfl rfl rfl (ow_alloc rfl (Tryd.zeroValue27 _) hC2 fun g1 w3 hg1 hg2 ho1 hb3 hl3 hC3 => ?_)
 have hm1 : (Add g1 M) g1 := .inl rfl
 refine lw_nil (ew_then (cw_seq (cw_seq (cw_region (lw_op rfl rfl rfl (ow_load (R := RBox) rfl rfl (ARep.mono (hl2.trans hl3) hp1) (Tryd.sizeOf27 _) (Tryd.isAgg27 _) fun v1 hv1 => ?_))))))
 replace h := bind_some h
 obtain ⟨x1, hx1, h⟩ := h
 refine lw_op rfl rfl rfl (ow_call rfl rfl Tryd.call30 (w_impl_BoxValid (hG.mono ((hl1.trans hl2).trans hl3)) hC3.old hv1 hx1) fun v2 w4 hv2 => ?_)
 obtain ⟨hv2, hb4⟩ := hv2
 have hl4 := Le.no (Add g1 M) hb4
 have hC4 := hC3.no hb4
 have ho2 := ho1.no hb4
 obtain rfl := vbool_eq hv2
 refine lw_op rfl rfl rfl (ow_not rfl rfl ?_)
 refine lw_op rfl rfl rfl (ow_move rfl rfl ?_)
 replace h := cond_some h
 rcases h with ⟨hc1, h⟩ | ⟨hc1, h⟩
 ·
  subst hc1
  refine lw_on rfl rfl rfl rfl rfl rfl (ow_load (R := RBox) rfl rfl (ARep.mono (hl3.trans hl4) hp2) (Tryd.sizeOf27 _) (Tryd.isAgg27 _) fun v3 hv3 => ?_)
  replace h := bind_some h
  obtain ⟨x2, hx2, h⟩ := h
  refine lw_on rfl rfl rfl rfl rfl rfl (ow_call rfl rfl Tryd.call30 (w_impl_BoxValid (hG.mono (((hl1.trans hl2).trans hl3).trans hl4)) hC4.old hv3 hx2) fun v4 w5 hv4 => ?_)
  obtain ⟨hv4, hb5⟩ := hv4
  have hl5 := Le.no (Add g1 M) hb5
  have hC5 := hC4.no hb5
  have ho3 := ho2.no hb5
  obtain rfl := vbool_eq hv4
  refine lw_on rfl rfl rfl rfl rfl rfl (ow_not rfl rfl ?_)
  refine lw_op rfl rfl rfl (ow_pickF rfl rfl rfl ?_)
  refine lw_nil (ew_then ?_)
  replace h := cond_some h
  rcases h with ⟨hc2, h⟩ | ⟨hc2, h⟩
  ·
   subst hc2
   refine cw_false rfl ?_
   refine cw_skip (ew_then (cw_seq ?_))
   replace h := bind_some h
   obtain ⟨x3, hx3, h⟩ := h
   replace h := bind_some h
   obtain ⟨x4, hx4, h⟩ := h
   replace h := bind_some h
   obtain ⟨x5, hx5, h⟩ := h
   refine cw_sub (E' := [(2, (.pointer (some p1))), (3, (.pointer (some p2))), (4, (.pointer (some ⟨g1, 0, none⟩)))]) ⟨rfl, rfl, rfl, trivial⟩ ?_
   refine cw_drawL 9 7 5 23 16 [PV RBox (Add g1 M) a_a, PV (RArr 4 (RSlice RSpan)) (Add g1 M) x3, PV RBox (Add g1 M) a_b, PV (RArr 4 (RSlice RSpan)) (Add g1 M) x4, PT2 (PV (RArr 4 (RSlice RSpan)) (Add g1 M) x5.1) (PEq (.bool x5.2)), PT2 (PV (RArr 4 (RSlice RSpan)) (Add g1 M) x5.1) (PEq (.bool x5.2)), PV (RArr 4 (RSlice RSpan)) (Add g1 M) x5.1, PEq (.bool x5.2), PNew w5 69 #[(.slice none 0 0), (.slice none 0 0), (.slice none 0 0), (.slice none 0 0)]] (by kernel_rfl) rfl (by kernel_rfl) rfl rfl rfl rfl rfl rfl rfl ⟨PV.mono _ _ _, PV.mono _ _ _, PV.mono _ _ _, PV.mono _ _ _, (PT2.mono (PV.mono _ _ _) (PEq.mono _)), (PT2.mono (PV.mono _ _ _) (PEq.mono _)), PV.mono _ _ _, PEq.mono _, PNew.mono _ _ _, trivial⟩ (fun v w h => by obtain ⟨a, b, rfl, ha, hb⟩ := h; exact ⟨b, hb, fun w' => ow_extract rfl rfl rfl ⟨rfl, rfl⟩⟩) ⟨?_, ?_, ?_, ?_, ?_, ?_, ?_, ?_, ?_, trivial⟩ ?_
   ·
    intro w10 D hS1 hd1
    have hl10 := Le.no (Add g1 M) hS1
    have hC10 := hC5.no hS1
    have ho10 := ho3.no hS1
    refine dg_sub (E' := [(2, (.pointer (some p1)))]) ⟨rfl, trivial⟩ ?_
    refine dg_plain rfl (ow_load (R := RBox) rfl rfl (ARep.mono ((((hl2.trans hl3).trans hl4).trans hl5).trans hl10) hp1) (Tryd.sizeOf27 _) (Tryd.isAgg27 _) fun v12 hv12 => ?_)
    exact ⟨BX.refl _ _, hv12⟩
   ·
    intro w11 D hS2 hd2
    have hl11 := Le.no (Add g1 M) hS2
    have hC11 := hC5.no hS2
    have ho11 := ho3.no hS2
    have hd2 : PV RBox (Add g1 M) a_a (D 0) w11 ∧ True := hd2
    obtain ⟨d1, -⟩ := hd2
    obtain ⟨v13, hq1⟩ : ∃ v, (D 0) = v := ⟨_, rfl⟩
    rw [hq1] at d1
    refine dg_sub (E' := [(17, v13)]) ⟨(congrArg some hq1), trivial⟩ ?_
    refine dg_plain rfl (ow_call rfl rfl Tryd.call65 (w_impl_sidesOf (hG.mono (((((hl1.trans hl2).trans hl3).trans hl4).trans hl5).trans hl11)) hC11.old d1 hx3) fun v14 w12 hv14 => ?_)
    obtain ⟨hv14, hb10⟩ := hv14
    have hl12 := Le.no (Add g1 M) hb10
    have hC12 := hC11.no hb10
    have ho12 := ho11.no hb10
    exact ⟨hb10, hv14⟩
   ·
    intro w13 D hS3 hd3
    have hl13 := Le.no (Add g1 M) hS3
    have hC13 := hC5.no hS3
    have ho13 := ho3.no hS3
    refine dg_sub (E' := [(3, (.pointer (some p2)))]) ⟨rfl, trivial⟩ ?_
    refine dg_plain rfl (ow_load (R := RBox) rfl rfl (ARep.mono (((hl3.trans hl4).trans hl5).trans hl13) hp2) (Tryd.sizeOf27 _) (Tryd.isAgg27 _) fun v15 hv15 => ?_)
    exact ⟨BX.refl _ _, hv15⟩
   ·
    intro w14 D hS4 hd4
    have hl14 := Le.no (Add g1 M) hS4
    have hC14 := hC5.no hS4
    have ho14 := ho3.no hS4
    have hd4 : PV RBox (Add g1 M) a_b (D 2) w14 ∧ PV (RArr 4 (RSlice RSpan)) (Add g1 M) x3 (D 1) w14 ∧ True := hd4
    obtain ⟨d2, d3, -⟩ := hd4
    obtain ⟨v16, hq2⟩ : ∃ v, (D 2) = v := ⟨_, rfl⟩
    rw [hq2] at d2
    refine dg_sub (E' := [(19, v16)]) ⟨(congrArg some hq2), trivial⟩ ?_
    refine dg_plain rfl (ow_call rfl rfl Tryd.call65 (w_impl_sidesOf (hG.mono (((((hl1.trans hl2).trans hl3).trans hl4).trans hl5).trans hl14)) hC14.old d2 hx4) fun v17 w15 hv17 => ?_)
    obtain ⟨hv17, hb11⟩ := hv17
    have hl15 := Le.no (Add g1 M) hb11
    have hC15 := hC14.no hb11
    have ho15 := ho14.no hb11
    exact ⟨hb11, hv17⟩
   ·
    intro w16 D hS5 hd5
    have hl16 := Le.no (Add g1 M) hS5
    have hC16 := hC5.no hS5
    have ho16 := ho3.no hS5
    have hd5 : PV (RArr 4 (RSlice RSpan)) (Add g1 M) x3 (D 1) w16 ∧ PV (RArr 4 (RSlice RSpan)) (Add g1 M) x4 (D 3) w16 ∧ PV (RArr 4 (RSlice RSpan)) (Add g1 M) x4 (D 3) w16 ∧ True := hd5
    obtain ⟨d4, d5, d6, -⟩ := hd5
    obtain ⟨v18, hq3⟩ : ∃ v, (D 1) = v := ⟨_, rfl⟩
    rw [hq3] at d4
    obtain ⟨v19, hq4⟩ : ∃ v, (D 3) = v := ⟨_, rfl⟩
    rw [hq4] at d5
    refine dg_sub (E' := [(18, v18), (20, v19)]) ⟨(congrArg some hq3), (congrArg some hq4), trivial⟩ ?_
    refine dg_plain rfl (ow_call rfl rfl Tryd.call67 (w_impl_sides_meet (hG.mono (((((hl1.trans hl2).trans hl3).trans hl4).trans hl5).trans hl16)) hC16.old d4 d5 hx5) fun v20 w17 hv20 => ?_)
    obtain ⟨⟨v21, v22, rfl, hv21, hv22⟩, hb12⟩ := hv20
    have hl17 := Le.no (Add g1 M) hb12
    have hC17 := hC16.no hb12
    have ho17 := ho16.no hb12
    obtain ⟨bb2, hbb2, rfl⟩ := vbool_ex hv22
    exact ⟨hb12, ⟨_, _, rfl, hv21, (congrArg Value.bool hbb2)⟩⟩
   ·
    intro w18 D hS6 hd6
    have hl18 := Le.no (Add g1 M) hS6
    have hC18 := hC5.no hS6
    have ho18 := ho3.no hS6
    have hd6 : PT2 (PV (RArr 4 (RSlice RSpan)) (Add g1 M) x5.1) (PEq (.bool x5.2)) (D 4) w18 ∧ True := hd6
    obtain ⟨d7, -⟩ := hd6
    obtain ⟨v23, v24, e1, hd7, hd8⟩ := d7
    obtain ⟨bb3, hq5, rfl⟩ : ∃ b, b = x5.2 ∧ v24 = .bool b := ⟨_, rfl, hd8⟩
    refine dg_sub (E' := [(21, (.tuple #[v23, (.bool bb3)]))]) ⟨(congrArg some e1), trivial⟩ ?_
    refine dg_plain rfl (ow_move rfl rfl ?_)
    exact ⟨BX.refl _ _, ⟨_, _, rfl, hd7, (congrArg Value.bool hq5)⟩⟩
   ·
    intro w19 D hS7 hd9
    have hl19 := Le.no (Add g1 M) hS7
    have hC19 := hC5.no hS7
    have ho19 := ho3.no hS7
    have hd9 : PT2 (PV (RArr 4 (RSlice RSpan)) (Add g1 M) x5.1) (PEq (.bool x5.2)) (D 5) w19 ∧ True := hd9
    obtain ⟨d8, -⟩ := hd9
    obtain ⟨v25, v26, e2, hd10, hd11⟩ := d8
    obtain ⟨bb4, hq6, rfl⟩ : ∃ b, b = x5.2 ∧ v26 = .bool b := ⟨_, rfl, hd11⟩
    refine dg_sub (E' := [(16, (.tuple #[v25, (.bool bb4)]))]) ⟨(congrArg some e2), trivial⟩ ?_
    refine dg_plain rfl (ow_extract rfl rfl rfl ?_)
    exact ⟨BX.refl _ _, hd10⟩
   ·
    intro w20 D hS8 hd12
    have hl20 := Le.no (Add g1 M) hS8
    have hC20 := hC5.no hS8
    have ho20 := ho3.no hS8
    have hd12 : PT2 (PV (RArr 4 (RSlice RSpan)) (Add g1 M) x5.1) (PEq (.bool x5.2)) (D 5) w20 ∧ True := hd12
    obtain ⟨d9, -⟩ := hd12
    obtain ⟨v27, v28, e3, hd13, hd14⟩ := d9
    obtain ⟨bb5, hq7, rfl⟩ : ∃ b, b = x5.2 ∧ v28 = .bool b := ⟨_, rfl, hd14⟩
    refine dg_sub (E' := [(16, (.tuple #[v27, (.bool bb5)]))]) ⟨(congrArg some e3), trivial⟩ ?_
    refine dg_plain rfl (ow_extract rfl rfl rfl ?_)
    exact ⟨BX.refl _ _, (congrArg Value.bool hq7)⟩
   ·
    intro w21 D hS9 hd15
    have hl21 := Le.no (Add g1 M) hS9
    have hC21 := hC5.no hS9
    have ho21 := ho3.no hS9
    refine dg_sub (E' := []) trivial ?_
    refine dg_plain rfl (ow_alloc rfl (Tryd.zeroValue69 _) hC21 fun g3 w22 hg5 hg6 ho22 hb13 hl22 hC22 => ?_)
    have hn2 := Nat.ne_of_lt (Nat.lt_of_lt_of_le ho21.lt hg5)
    have ho23 := ho21.no hb13
    have hm4 : (Add g3 (Add g1 M)) g1 := .inr hm1
    have hm5 : (Add g3 (Add g1 M)) g3 := .inl rfl
    have ho24 : OwnA (RArr 4 (RSlice RSpan)) w22 (Add g3 (Add g1 M)) g3 69 [([] : List Span), ([] : List Span), ([] : List Span), ([] : List Span)] := OwnA.of ho22 ⟨rfl, ⟨_, _, rfl, (vslice_nil (R := RSpan) (w := w22) (M := (Add g3 (Add g1 M)))).cells, _, _, rfl, (vslice_nil (R := RSpan) (w := w22) (M := (Add g3 (Add g1 M)))).cells, _, _, rfl, (vslice_nil (R := RSpan) (w := w22) (M := (Add g3 (Add g1 M)))).cells, _, _, rfl, (vslice_nil (R := RSpan) (w := w22) (M := (Add g3 (Add g1 M)))).cells, rfl⟩⟩
    exact ⟨hb13, ⟨_, rfl, Nat.le_trans hS9.size hg5, ho22⟩⟩
   ·
    intro w23 D hS10 hd16
    have hd16 : PV RBox (Add g1 M) a_a (D 0) w23 ∧ PV (RArr 4 (RSlice RSpan)) (Add g1 M) x3 (D 1) w23 ∧ PV RBox (Add g1 M) a_b (D 2) w23 ∧ PV (RArr 4 (RSlice RSpan)) (Add g1 M) x4 (D 3) w23 ∧ PT2 (PV (RArr 4 (RSlice RSpan)) (Add g1 M) x5.1) (PEq (.bool x5.2)) (D 4) w23 ∧ PT2 (PV (RArr 4 (RSlice RSpan)) (Add g1 M) x5.1) (PEq (.bool x5.2)) (D 5) w23 ∧ PV (RArr 4 (RSlice RSpan)) (Add g1 M) x5.1 (D 6) w23 ∧ PEq (.bool x5.2) (D 7) w23 ∧ PNew w5 69 #[(.slice none 0 0), (.slice none 0 0), (.slice none 0 0), (.slice none 0 0)] (D 8) w23 ∧ True := hd16
    obtain ⟨-, -, -, -, -, -, d16, d17, d18, -⟩ := hd16
    obtain ⟨g4, hq8, hg7, ho25⟩ := d18
    have hg8 := Nat.le_trans hC5.bx.size hg7
    have hl23 := (Le.no (Add g1 M) hS10).add hg7
    have hC23 := (hC5.no hS10).add ho25.lt hg8
    have hn3 := Nat.ne_of_lt (Nat.lt_of_lt_of_le ho3.lt hg7)
    have ho26 := ho3.no hS10
    have hm6 : (Add g4 (Add g1 M)) g1 := .inr hm1
    have hm7 : (Add g4 (Add g1 M)) g4 := .inl rfl
    have ho27 : OwnA (RArr 4 (RSlice RSpan)) w23 (Add g4 (Add g1 M)) g4 69 [([] : List Span), ([] : List Span), ([] : List Span), ([] : List Span)] := OwnA.of ho25 ⟨rfl, ⟨_, _, rfl, (vslice_nil (R := RSpan) (w := w23) (M := (Add g4 (Add g1 M)))).cells, _, _, rfl, (vslice_nil (R := RSpan) (w := w23) (M := (Add g4 (Add g1 M)))).cells, _, _, rfl, (vslice_nil (R := RSpan) (w := w23) (M := (Add g4 (Add g1 M)))).cells, _, _, rfl, (vslice_nil (R := RSpan) (w := w23) (M := (Add g4 (Add g1 M)))).cells, rfl⟩⟩
    have d19 : VRep (RArr 4 (RSlice RSpan)) w23 (Add g4 (Add g1 M)) x5.1 (D 6) := sides_free ho25 nil4 d16
    obtain ⟨v29, hq9⟩ : ∃ v, (D 6) = v := ⟨_, rfl⟩
    rw [hq9] at d19
    obtain ⟨bb6, hq10, hq11⟩ : ∃ b, b = x5.2 ∧ (D 7) = .bool b := ⟨_, rfl, d17⟩
    refine ls_sub (E' := [(5, (.pointer (some ⟨g4, 0, none⟩))), (22, v29), (2, (.pointer (some p1))), (3, (.pointer (some p2))), (4, (.pointer (some ⟨g1, 0, none⟩)))]) ⟨(congrArg some hq8), (congrArg some hq9), rfl, rfl, rfl, trivial⟩ ?_
    obtain ⟨cs1, h1, h2⟩ := ho27.own
    refine ls_op0 (by kernel_rfl) rfl rfl (ow_storeA (X := No) (R := (RArr 4 (RSlice RSpan))) rfl rfl rfl rfl h1 h2 (Tryd.sizeOf69 _) d19 hm7 (.inl hg8) hC23 fun w24 ho28 hb14 hl24 hC24 => ?_)
    have ho29 := ho26.go hb14 (fun e => hn3 e)
    refine ls_hang (by kernel_rfl) ?_
    refine lw_sub (E' := [(23, (.bool bb6)), (5, (.pointer (some ⟨g4, 0, none⟩))), (22, v29), (2, (.pointer (some p1))), (3, (.pointer (some p2))), (4, (.pointer (some ⟨g1, 0, none⟩)))]) ⟨(congrArg some hq11), rfl, rfl, rfl, rfl, rfl, trivial⟩ ?_
    refine lw_op rfl rfl rfl (ow_assign rfl rfl ?_)
    refine lw_nil (ew_then (cw_seq (cw_seq (cw_region (lw_op rfl rfl rfl (ow_move rfl rfl ?_))))))
    refine lw_op rfl rfl rfl (ow_not rfl rfl ?_)
    refine lw_nil (ew_then ?_)
    replace h := cond_some h
    rcases h with ⟨hc3, h⟩ | ⟨hc3, h⟩
    ·
     obtain rfl := hq10.trans hc3
     refine cw_false rfl ?_
     refine cw_skip (ew_then (cw_seq (cw_region (lw_op rfl rfl rfl (ow_loadA (R := (RArr 4 (RSlice RSpan))) rfl rfl rfl ho28 (Tryd.sizeOf69 _) (Tryd.isAgg69 _) fun v30 hv30 => ?_)))))
     replace h := bind_some h
     obtain ⟨x6, hx6, h⟩ := h
     refine lw_op rfl rfl rfl (ow_call rfl rfl Tryd.call57 (w_impl_sides_box (hG.mono ((((((hl1.trans hl2).trans hl3).trans hl4).trans hl5).trans hl23).trans hl24)) hC24.old hv30 hx6) fun v31 w25 hv31 => ?_)
     obtain ⟨hv31, hb15⟩ := hv31
     have hl25 := Le.no (Add g4 (Add g1 M)) hb15
     have hC25 := hC24.no hb15
     have ho30 := ho29.no hb15
     have ho31 := ho28.no hb15 hl25
     obtain ⟨A1, c1, rfl, hw1⟩ := open_Box hv31
     refine lw_op0 rfl rfl (ow_store (X := No) (us := [(.slice A1 x6.Sides.length c1)]) (cs' := #[(.slice A1 x6.Sides.length c1)]) rfl rfl rfl rfl ho30 (Tryd.sizeOf27 _) rfl rfl rfl rfl hm6 (.inl hg2) rfl hC25 fun w26 ho32 hb16 hl26 hC26 => ?_)
     have ho33 := ho31.go hb16 (fun e => hn3 e.symm) hl26
     refine lw_nil (ew_then (cw_ret ?_))
     have hw2 : VRep RBox w26 (Add g4 (Add g1 M)) ({ Sides := x6.Sides } : Box) (.agg #[(.slice A1 x6.Sides.length c1)]) := shut_Box (VRep.mono hl26 hw1)
     obtain rfl := Option.some.inj h
     exact ew_ret (res1 rfl (.cell rfl (own_loadVarA ho32 (Tryd.isAgg27 _) (Tryd.sizeOf27 _) rfl))) ⟨_, rfl, (hw2.mono hC26.back), hC26.bx⟩
    ·
     obtain rfl := hq10.trans hc3
     refine cw_true rfl ?_
     refine cw_seq (cw_region (lw_op rfl rfl rfl (ow_build (v := .agg #[(.slice none 0 0)]) rfl rfl (by kernel_rfl) ?_)))
     have hw3 : VRep RBox w24 (Add g4 (Add g1 M)) ({ Sides := ([] : List (List Span)) } : Box) (.agg #[(.slice none 0 0)]) := shut_Box (vslice_nil (R := (RSlice RSpan)) (w := w24) (M := (Add g4 (Add g1 M))))
     refine lw_op0 rfl rfl (ow_store (X := No) (us := [(.slice none 0 0)]) (cs' := #[(.slice none 0 0)]) rfl rfl rfl rfl ho29 (Tryd.sizeOf27 _) rfl rfl rfl rfl hm6 (.inl hg2) rfl hC24 fun w27 ho34 hb17 hl27 hC27 => ?_)
     have ho35 := ho28.go hb17 (fun e => hn3 e.symm) hl27
     refine lw_nil (ew_then (cw_ret (ew_thenR ?_)))
     have hw4 : VRep RBox w27 (Add g4 (Add g1 M)) ({ Sides := ([] : List (List Span)) } : Box) (.agg #[(.slice none 0 0)]) := shut_Box (VRep.mono hl27 (vslice_nil (R := (RSlice RSpan)) (w := w24) (M := (Add g4 (Add g1 M)))))
     obtain rfl := Option.some.inj h
     exact ew_ret (res1 rfl (.cell rfl (own_loadVarA ho34 (Tryd.isAgg27 _) (Tryd.sizeOf27 _) rfl))) ⟨_, rfl, (hw4.mono hC27.back), hC27.bx⟩
  ·
   subst hc2
   refine cw_true rfl ?_
   refine cw_seq (cw_region (lw_op rfl rfl rfl (ow_build (v := .agg #[(.slice none 0 0)]) rfl rfl (by kernel_rfl) ?_)))
   have hw5 : VRep RBox w5 (Add g1 M) ({ Sides := ([] : List (List Span)) } : Box) (.agg #[(.slice none 0 0)]) := shut_Box (vslice_nil (R := (RSlice RSpan)) (w := w5) (M := (Add g1 M)))
   refine lw_op0 rfl rfl (ow_store (X := No) (us := [(.slice none 0 0)]) (cs' := #[(.slice none 0 0)]) rfl rfl rfl rfl ho3 (Tryd.sizeOf27 _) rfl rfl rfl rfl hm1 (.inl hg2) rfl hC5 fun w28 ho36 hb18 hl28 hC28 => ?_)
   refine lw_nil (ew_then (cw_ret (ew_thenR ?_)))
   have hw6 : VRep RBox w28 (Add g1 M) ({ Sides := ([] : List (List Span)) } : Box) (.agg #[(.slice none 0 0)]) := shut_Box (VRep.mono hl28 (vslice_nil (R := (RSlice RSpan)) (w := w5) (M := (Add g1 M))))
   obtain rfl := Option.some.inj h
   exact ew_ret (res1 rfl (.cell rfl (own_loadVarA ho36 (Tryd.isAgg27 _) (Tryd.sizeOf27 _) rfl))) ⟨_, rfl, (hw6.mono hC28.back), hC28.bx⟩
 ·
  subst hc1
  refine lw_off rfl rfl rfl rfl rfl rfl ?_
  refine lw_off rfl rfl rfl rfl rfl rfl ?_
  refine lw_off rfl rfl rfl rfl rfl rfl ?_
  refine lw_op rfl rfl rfl (ow_pickT rfl rfl rfl ?_)
  refine lw_nil (ew_then (cw_true rfl ?_))
  refine cw_seq (cw_region (lw_op rfl rfl rfl (ow_build (v := .agg #[(.slice none 0 0)]) rfl rfl (by kernel_rfl) ?_)))
  have hw7 : VRep RBox w4 (Add g1 M) ({ Sides := ([] : List (List Span)) } : Box) (.agg #[(.slice none 0 0)]) := shut_Box (vslice_nil (R := (RSlice RSpan)) (w := w4) (M := (Add g1 M)))
  refine lw_op0 rfl rfl (ow_store (X := No) (us := [(.slice none 0 0)]) (cs' := #[(.slice none 0 0)]) rfl rfl rfl rfl ho2 (Tryd.sizeOf27 _) rfl rfl rfl rfl hm1 (.inl hg2) rfl hC4 fun w29 ho37 hb19 hl29 hC29 => ?_)
  refine lw_nil (ew_then (cw_ret (ew_thenR ?_)))
  have hw8 : VRep RBox w29 (Add g1 M) ({ Sides := ([] : List (List Span)) } : Box) (.agg #[(.slice none 0 0)]) := shut_Box (VRep.mono hl29 (vslice_nil (R := (RSlice RSpan)) (w := w4) (M := (Add g1 M))))
  obtain rfl := Option.some.inj h
  exact ew_ret (res1 rfl (.cell rfl (own_loadVarA ho37 (Tryd.isAgg27 _) (Tryd.sizeOf27 _) rfl))) ⟨_, rfl, (hw8.mono hC29.back), hC29.bx⟩

theorem w_laws_FnTestsMore {w : World} {M : Nat → Prop} (hG : ARep (RArr 4 RShape) w M shapes ⟨0, 0, none⟩) (hO : ∀ b, M b → b < w.heap.size) {v0p : Value} {a_code : List Int} (h0 : VRep (RSlice RU8) w M a_code v0p) {r : Bool} (h : F.laws_FnTestsMore a_code = some r) :
  Calls Tryd.prog 6 [v0p].toArray w fun e w' => ∃ v, e = .returned v ∧ VRep RBool w' M r v ∧ BX No w w' := by
 have hC : Cx No w M w M := Cx.start hO (fun _ e => e.elim)
 refine walk (N := 50) Tryd.func6 rfl Tryd.ntmps6 rfl ?_
 refine cw_seq (cw_region (lw_op rfl rfl rfl (ow_assign rfl rfl ?_)))
 refine lw_nil (ew_then (cw_seq (cw_seq (cw_region (lw_op rfl rfl rfl (ow_move rfl rfl ?_))))))
 refine lw_op rfl rfl rfl (ow_len rfl rfl h0 Tryd.underlying22 rfl ?_)
 refine lw_op rfl rfl rfl (ow_gtr rfl rfl rfl fun bb1 hbb1 => ?_)
 refine lw_nil (ew_then ?_)
 replace h := cond_some h
 rcases h with ⟨hc1, h⟩ | ⟨hc1, h⟩
 ·
  obtain rfl := hbb1.trans hc1
  refine cw_true rfl ?_
  refine cw_seq (cw_region (lw_op rfl rfl rfl (ow_assign rfl rfl ?_)))
  refine lw_nil (ew_then (cw_ret (ew_thenR ?_)))
  obtain rfl := Option.some.inj h
  exact ew_ret (res1 rfl (.tmp rfl)) ⟨_, rfl, ((vbool _)), hC.bx⟩
 ·
  obtain rfl := hbb1.trans hc1
  refine cw_false rfl ?_
  refine cw_skip (ew_then (cw_seq (cw_region (lw_op rfl rfl rfl (ow_move rfl rfl ?_)))))
  replace h := bind_some h
  obtain ⟨x1, hx1, h⟩ := h
  refine lw_op rfl rfl rfl (ow_call rfl rfl Tryd.call15 (w_spec_DrawTestsBox hG hC.old h0 hx1) fun v1 w1 hv1 => ?_)
  obtain ⟨hv1, hb1⟩ := hv1
  have hl1 := Le.no M hb1
  have hC1 := hC.no hb1
  refine lw_op rfl rfl rfl (ow_assign rfl rfl ?_)
  refine lw_nil (ew_then (cw_seq (cw_region (lw_op rfl rfl rfl (ow_move rfl rfl ?_)))))
  replace h := bind_some h
  obtain ⟨x2, hx2, h⟩ := h
  refine lw_op rfl rfl rfl (ow_call rfl rfl Tryd.call16 (w_impl_TestsBox (hG.mono hl1) hC1.old hv1 hx2) fun v2 w2 hv2 => ?_)
  obtain ⟨hv2, hb2⟩ := hv2
  have hl2 := Le.no M hb2
  have hC2 := hC1.no hb2
  refine lw_allocStore (R := RBox) rfl rfl rfl rfl rfl rfl rfl Tryd.zeroValue27 Tryd.sizeOf27 rfl rfl rfl (by simp) hv2 hC2 fun p1 w3 hp1 hb3 hl3 hC3 => ?_
  refine lw_nil (ew_then (cw_seq (cw_seq ?_)))
  replace h := bind_some h
  obtain ⟨x3, hx3, h⟩ := h
  refine cw_sub (E' := [(2, (.bool false)), (3, v1), (4, (.pointer (some p1)))]) ⟨rfl, rfl, rfl, trivial⟩ ?_
  refine cw_drawQ 3 [PV RBox M x2, PV (RSlice RTest) M x1, PV RBox M x3] (by kernel_rfl) rfl (by kernel_rfl) ⟨PV.mono _ _ _, PV.mono _ _ _, PV.mono _ _ _, trivial⟩ ⟨?_, ?_, ?_, trivial⟩ ?_
  ·
   intro w5 D hS1 hd1
   have hl5 := Le.no M hS1
   have hC5 := hC3.no hS1
   refine dg_sub (E' := [(4, (.pointer (some p1)))]) ⟨rfl, trivial⟩ ?_
   refine dg_plain rfl (ow_load (R := RBox) rfl rfl (ARep.mono hl5 hp1) (Tryd.sizeOf27 _) (Tryd.isAgg27 _) fun v5 hv5 => ?_)
   exact ⟨BX.refl _ _, hv5⟩
  ·
   intro w6 D hS2 hd2
   have hl6 := Le.no M hS2
   have hC6 := hC3.no hS2
   refine dg_sub (E' := [(3, v1)]) ⟨rfl, trivial⟩ ?_
   refine dg_plain rfl (ow_move rfl rfl ?_)
   exact ⟨BX.refl _ _, (VRep.mono ((hl2.trans hl3).trans hl6) hv1)⟩
  ·
   intro w7 D hS3 hd3
   have hl7 := Le.no M hS3
   have hC7 := hC3.no hS3
   have hd3 : PV (RSlice RTest) M x1 (D 1) w7 ∧ True := hd3
   obtain ⟨d1, -⟩ := hd3
   obtain ⟨v6, hq1⟩ : ∃ v, (D 1) = v := ⟨_, rfl⟩
   rw [hq1] at d1
   refine dg_sub (E' := [(16, v6)]) ⟨(congrArg some hq1), trivial⟩ ?_
   refine dg_plain rfl (ow_call rfl rfl Tryd.call18 (w_spec_TestsBox (hG.mono (((hl1.trans hl2).trans hl3).trans hl7)) hC7.old d1 hx3) fun v7 w8 hv7 => ?_)
   obtain ⟨hv7, hb5⟩ := hv7
   have hl8 := Le.no M hb5
   have hC8 := hC7.no hb5
   exact ⟨hb5, hv7⟩
  ·
   intro w9 D hS4 hd4
   have hd4 : PV RBox M x2 (D 0) w9 ∧ PV (RSlice RTest) M x1 (D 1) w9 ∧ PV RBox M x3 (D 2) w9 ∧ True := hd4
   obtain ⟨d2, -, d4, -⟩ := hd4
   have hl9 := Le.no M hS4
   have hC9 := hC3.no hS4
   obtain ⟨v8, hq2⟩ : ∃ v, (D 0) = v := ⟨_, rfl⟩
   rw [hq2] at d2
   obtain ⟨v9, hq3⟩ : ∃ v, (D 2) = v := ⟨_, rfl⟩
   rw [hq3] at d4
   refine lw_sub (E' := [(15, v8), (17, v9), (2, (.bool false)), (3, v1), (4, (.pointer (some p1)))]) ⟨(congrArg some hq2), (congrArg some hq3), rfl, rfl, rfl, trivial⟩ ?_
   replace h := bind_some h
   obtain ⟨x4, hx4, h⟩ := h
   refine lw_op rfl rfl rfl (ow_call rfl rfl Tryd.call17 (w_laws_sameBox (hG.mono (((hl1.trans hl2).trans hl3).trans hl9)) hC9.old d2 d4 hx4) fun v10 w10 hv10 => ?_)
   obtain ⟨hv10, hb6⟩ := hv10
   have hl10 := Le.no M hb6
   have hC10 := hC9.no hb6
   obtain rfl := vbool_eq hv10
   refine lw_op rfl rfl rfl (ow_not rfl rfl ?_)
   refine lw_nil (ew_then ?_)
   replace h := cond_some h
   rcases h with ⟨hc2, h⟩ | ⟨hc2, h⟩
   ·
    subst hc2
    refine cw_false rfl ?_
    refine cw_skip (ew_then (cw_seq (cw_seq (cw_region (lw_op rfl rfl rfl (ow_move rfl rfl ?_))))))
    replace h := bind_some h
    obtain ⟨x5, hx5, h⟩ := h
    refine lw_op rfl rfl rfl (ow_call rfl rfl Tryd.call26 (w_spec_TestsValid (hG.mono ((((hl1.trans hl2).trans hl3).trans hl9).trans hl10)) hC10.old (VRep.mono (((hl2.trans hl3).trans hl9).trans hl10) hv1) hx5) fun v11 w11 hv11 => ?_)
    obtain ⟨hv11, hb7⟩ := hv11
    have hl11 := Le.no M hb7
    have hC11 := hC10.no hb7
    obtain rfl := vbool_eq hv11
    refine lw_op rfl rfl rfl (ow_not rfl rfl ?_)
    refine lw_nil (ew_then ?_)
    replace h := cond_some h
    rcases h with ⟨hc3, h⟩ | ⟨hc3, h⟩
    ·
     subst hc3
     refine cw_false rfl ?_
     refine cw_skip (ew_then (cw_seq (cw_region (lw_op rfl rfl rfl (ow_move rfl rfl ?_)))))
     refine lw_op rfl rfl rfl (ow_len rfl rfl (VRep.mono ((((hl2.trans hl3).trans hl9).trans hl10).trans hl11) hv1) Tryd.underlying23 rfl ?_)
     refine lw_op rfl rfl rfl (ow_quo rfl rfl rfl (by decide) ?_)
     refine lw_op rfl rfl rfl (ow_assign rfl rfl ?_)
     refine lw_nil (ew_then (cw_seq (cw_region (lw_op rfl rfl rfl (ow_move rfl rfl ?_)))))
     refine lw_op rfl rfl rfl (ow_move rfl rfl ?_)
     replace h := bind_some h
     obtain ⟨y1, hy1, h⟩ := h
     refine lw_op rfl rfl rfl (ow_sliceTo (R := RTest) rfl rfl rfl (VRep.mono ((((hl2.trans hl3).trans hl9).trans hl10).trans hl11) hv1) Tryd.underlying23 (Tryd.sizeOf31 _) (takeF_some hy1).2 fun v12 hv12 => ?_)
     rw [← (takeF_some hy1).1] at hv12
     replace h := bind_some h
     obtain ⟨x6, hx6, h⟩ := h
     refine lw_op rfl rfl rfl (ow_call rfl rfl Tryd.call16 (w_impl_TestsBox (hG.mono (((((hl1.trans hl2).trans hl3).trans hl9).trans hl10).trans hl11)) hC11.old hv12 hx6) fun v13 w12 hv13 => ?_)
     obtain ⟨hv13, hb8⟩ := hv13
     have hl12 := Le.no M hb8
     have hC12 := hC11.no hb8
     refine lw_allocStore (R := RBox) rfl rfl rfl rfl rfl rfl rfl Tryd.zeroValue27 Tryd.sizeOf27 rfl rfl rfl (by simp) hv13 hC12 fun p2 w13 hp2 hb9 hl13 hC13 => ?_
     refine lw_nil (ew_then (cw_seq (cw_region (lw_op rfl rfl rfl (ow_move rfl rfl ?_)))))
     refine lw_op rfl rfl rfl (ow_move rfl rfl ?_)
     replace h := bind_some h
     obtain ⟨y2, hy2, h⟩ := h
     refine lw_op rfl rfl rfl (ow_sliceFrom (R := RTest) rfl rfl rfl (VRep.mono ((((((hl2.trans hl3).trans hl9).trans hl10).trans hl11).trans hl12).trans hl13) hv1) Tryd.underlying23 (Tryd.sizeOf31 _) (dropF_some hy2).2 fun v14 hv14 => ?_)
     rw [← (dropF_some hy2).1] at hv14
     replace h := bind_some h
     obtain ⟨x7, hx7, h⟩ := h
     refine lw_op rfl rfl rfl (ow_call rfl rfl Tryd.call16 (w_impl_TestsBox (hG.mono (((((((hl1.trans hl2).trans hl3).trans hl9).trans hl10).trans hl11).trans hl12).trans hl13)) hC13.old hv14 hx7) fun v15 w14 hv15 => ?_)
     obtain ⟨hv15, hb10⟩ := hv15
     have hl14 := Le.no M hb10
     have hC14 := hC13.no hb10
     refine lw_allocStore (R := RBox) rfl rfl rfl rfl rfl rfl rfl Tryd.zeroValue27 Tryd.sizeOf27 rfl rfl rfl (by simp) hv15 hC14 fun p3 w15 hp3 hb11 hl15 hC15 => ?_
     refine lw_nil (ew_then (cw_seq ?_))
     replace h := bind_some h
     obtain ⟨x8, hx8, h⟩ := h
     replace h := cond_some h
     rcases h with ⟨hc4, h⟩ | ⟨hc4, h⟩
     ·
      subst hc4
      replace h := bind_some h
      obtain ⟨x9, hx9, h⟩ := h
      replace h := cond_some h
      rcases h with ⟨hc5, h⟩ | ⟨hc5, h⟩
      ·
       subst hc5
       replace h := bind_some h
       obtain ⟨x10, hx10, h⟩ := h
       refine cw_sub (E' := [(2, (.bool false)), (4, (.pointer (some p1))), (6, (.pointer (some p2))), (7, (.pointer (some p3)))]) ⟨rfl, rfl, rfl, rfl, trivial⟩ ?_
       refine cw_drawQ 13 [PV RBox M x2, PV RBox M x6, PEq (.bool true), PEq (.bool true), PV RBox M x2, PV RBox M x7, PEq (.bool true), PEq (.bool true), PEq (.bool true), PV RBox M x6, PV RBox M x7, PV RBox M x10, PV RBox M x2] (by kernel_rfl) rfl (by kernel_rfl) ⟨PV.mono _ _ _, PV.mono _ _ _, PEq.mono _, PEq.mono _, PV.mono _ _ _, PV.mono _ _ _, PEq.mono _, PEq.mono _, PEq.mono _, PV.mono _ _ _, PV.mono _ _ _, PV.mono _ _ _, PV.mono _ _ _, trivial⟩ ⟨?_, ?_, ?_, ?_, ?_, ?_, ?_, ?_, ?_, ?_, ?_, ?_, ?_, trivial⟩ ?_
       ·
        intro w19 D hS5 hd5
        have hl19 := Le.no M hS5
        have hC19 := hC15.no hS5
        refine dg_sub (E' := [(4, (.pointer (some p1)))]) ⟨rfl, trivial⟩ ?_
        refine dg_plain rfl (ow_load (R := RBox) rfl rfl (ARep.mono (((((((hl9.trans hl10).trans hl11).trans hl12).trans hl13).trans hl14).trans hl15).trans hl19) hp1) (Tryd.sizeOf27 _) (Tryd.isAgg27 _) fun v26 hv26 => ?_)
        exact ⟨BX.refl _ _, hv26⟩
       ·
        intro w20 D hS6 hd6
        have hl20 := Le.no M hS6
        have hC20 := hC15.no hS6
        refine dg_sub (E' := [(6, (.pointer (some p2)))]) ⟨rfl, trivial⟩ ?_
        refine dg_plain rfl (ow_load (R := RBox) rfl rfl (ARep.mono ((hl14.trans hl15).trans hl20) hp2) (Tryd.sizeOf27 _) (Tryd.isAgg27 _) fun v27 hv27 => ?_)
        exact ⟨BX.refl _ _, hv27⟩
       ·
        intro w21 D hS7 hd7
        have hl21 := Le.no M hS7
        have hC21 := hC15.no hS7
        have hd7 : PV RBox M x2 (D 0) w21 ∧ PV RBox M x6 (D 1) w21 ∧ True := hd7
        obtain ⟨d5, d6, -⟩ := hd7
        obtain ⟨v28, hq4⟩ : ∃ v, (D 0) = v := ⟨_, rfl⟩
        rw [hq4] at d5
        obtain ⟨v29, hq5⟩ : ∃ v, (D 1) = v := ⟨_, rfl⟩
        rw [hq5] at d6
        refine dg_sub (E' := [(35, v28), (36, v29)]) ⟨(congrArg some hq4), (congrArg some hq5), trivial⟩ ?_
        refine dg_plain rfl (ow_call rfl rfl Tryd.call27 (w_impl_BoxWithin (hG.mono ((((((((((hl1.trans hl2).trans hl3).trans hl9).trans hl10).trans hl11).trans hl12).trans hl13).trans hl14).trans hl15).trans hl21)) hC21.old d5 d6 hx8) fun v30 w22 hv30 => ?_)
        obtain ⟨hv30, hb15⟩ := hv30
        have hl22 := Le.no M hb15
        have hC22 := hC21.no hb15
        obtain rfl := vbool_eq hv30
        exact ⟨hb15, rfl⟩
       ·
        intro w23 D hS8 hd8
        have hl23 := Le.no M hS8
        have hC23 := hC15.no hS8
        have hd8 : PEq (.bool true) (D 2) w23 ∧ PEq (.bool true) (D 2) w23 ∧ True := hd8
        obtain ⟨d7, d8, -⟩ := hd8
        refine dg_sub (E' := [(37, (.bool true))]) ⟨(congrArg some d7), trivial⟩ ?_
        refine dg_plain rfl (ow_move rfl rfl ?_)
        exact ⟨BX.refl _ _, rfl⟩
       ·
        intro w24 D hS9 hd9
        have hl24 := Le.no M hS9
        have hC24 := hC15.no hS9
        have hd9 : PEq (.bool true) (D 3) w24 ∧ True := hd9
        obtain ⟨d9, -⟩ := hd9
        refine dg_sub (E' := [(38, (.bool true)), (4, (.pointer (some p1)))]) ⟨(congrArg some d9), rfl, trivial⟩ ?_
        refine dg_on rfl rfl rfl rfl (ow_load (R := RBox) rfl rfl (ARep.mono (((((((hl9.trans hl10).trans hl11).trans hl12).trans hl13).trans hl14).trans hl15).trans hl24) hp1) (Tryd.sizeOf27 _) (Tryd.isAgg27 _) fun v31 hv31 => ?_)
        exact ⟨BX.refl _ _, hv31⟩
       ·
        intro w25 D hS10 hd10
        have hl25 := Le.no M hS10
        have hC25 := hC15.no hS10
        have hd10 : PEq (.bool true) (D 3) w25 ∧ True := hd10
        obtain ⟨d10, -⟩ := hd10
        refine dg_sub (E' := [(38, (.bool true)), (7, (.pointer (some p3)))]) ⟨(congrArg some d10), rfl, trivial⟩ ?_
        refine dg_on rfl rfl rfl rfl (ow_load (R := RBox) rfl rfl (ARep.mono hl25 hp3) (Tryd.sizeOf27 _) (Tryd.isAgg27 _) fun v32 hv32 => ?_)
        exact ⟨BX.refl _ _, hv32⟩
       ·
        intro w26 D hS11 hd11
        have hl26 := Le.no M hS11
        have hC26 := hC15.no hS11
        have hd11 : PV RBox M x2 (D 4) w26 ∧ PV RBox M x7 (D 5) w26 ∧ PEq (.bool true) (D 3) w26 ∧ PEq (.bool true) (D 3) w26 ∧ True := hd11
        obtain ⟨d11, d12, d13, d14, -⟩ := hd11
        obtain ⟨v33, hq6⟩ : ∃ v, (D 4) = v := ⟨_, rfl⟩
        rw [hq6] at d11
        obtain ⟨v34, hq7⟩ : ∃ v, (D 5) = v := ⟨_, rfl⟩
        rw [hq7] at d12
        refine dg_sub (E' := [(39, v33), (40, v34), (38, (.bool true))]) ⟨(congrArg some hq6), (congrArg some hq7), (congrArg some d13), trivial⟩ ?_
        refine dg_on rfl rfl rfl rfl (ow_call rfl rfl Tryd.call27 (w_impl_BoxWithin (hG.mono ((((((((((hl1.trans hl2).trans hl3).trans hl9).trans hl10).trans hl11).trans hl12).trans hl13).trans hl14).trans hl15).trans hl26)) hC26.old d11 d12 hx9) fun v35 w27 hv35 => ?_)
        obtain ⟨hv35, hb16⟩ := hv35
        have hl27 := Le.no M hb16
        have hC27 := hC26.no hb16
        obtain rfl := vbool_eq hv35
        exact ⟨hb16, rfl⟩
       ·
        intro w28 D hS12 hd12
        have hl28 := Le.no M hS12
        have hC28 := hC15.no hS12
        have hd12 : PEq (.bool true) (D 3) w28 ∧ PEq (.bool true) (D 6) w28 ∧ True := hd12
        obtain ⟨d15, d16, -⟩ := hd12
        refine dg_sub (E' := [(38, (.bool true)), (41, (.bool true))]) ⟨(congrArg some d15), (congrArg some d16), trivial⟩ ?_
        refine dg_plain rfl (ow_pickT rfl rfl rfl ?_)
        exact ⟨BX.refl _ _, rfl⟩
       ·
        intro w29 D hS13 hd13
        have hl29 := Le.no M hS13
        have hC29 := hC15.no hS13
        have hd13 : PEq (.bool true) (D 7) w29 ∧ PEq (.bool true) (D 6) w29 ∧ True := hd13
        obtain ⟨d17, d18, -⟩ := hd13
        refine dg_sub (E' := [(42, (.bool true))]) ⟨(congrArg some d17), trivial⟩ ?_
        refine dg_plain rfl (ow_move rfl rfl ?_)
        exact ⟨BX.refl _ _, rfl⟩
       ·
        intro w30 D hS14 hd14
        have hl30 := Le.no M hS14
        have hC30 := hC15.no hS14
        have hd14 : PEq (.bool true) (D 8) w30 ∧ True := hd14
        obtain ⟨d19, -⟩ := hd14
        refine dg_sub (E' := [(43, (.bool true)), (6, (.pointer (some p2)))]) ⟨(congrArg some d19), rfl, trivial⟩ ?_
        refine dg_on rfl rfl rfl rfl (ow_load (R := RBox) rfl rfl (ARep.mono ((hl14.trans hl15).trans hl30) hp2) (Tryd.sizeOf27 _) (Tryd.isAgg27 _) fun v36 hv36 => ?_)
        exact ⟨BX.refl _ _, hv36⟩
       ·
        intro w31 D hS15 hd15
        have hl31 := Le.no M hS15
        have hC31 := hC15.no hS15
        have hd15 : PEq (.bool true) (D 8) w31 ∧ True := hd15
        obtain ⟨d20, -⟩ := hd15
        refine dg_sub (E' := [(43, (.bool true)), (7, (.pointer (some p3)))]) ⟨(congrArg some d20), rfl, trivial⟩ ?_
        refine dg_on rfl rfl rfl rfl (ow_load (R := RBox) rfl rfl (ARep.mono hl31 hp3) (Tryd.sizeOf27 _) (Tryd.isAgg27 _) fun v37 hv37 => ?_)
        exact ⟨BX.refl _ _, hv37⟩
       ·
        intro w32 D hS16 hd16
        have hl32 := Le.no M hS16
        have hC32 := hC15.no hS16
        have hd16 : PV RBox M x6 (D 9) w32 ∧ PV RBox M x7 (D 10) w32 ∧ PEq (.bool true) (D 8) w32 ∧ PEq (.bool true) (D 8) w32 ∧ True := hd16
        obtain ⟨d21, d22, d23, d24, -⟩ := hd16
        obtain ⟨v38, hq8⟩ : ∃ v, (D 9) = v := ⟨_, rfl⟩
        rw [hq8] at d21
        obtain ⟨v39, hq9⟩ : ∃ v, (D 10) = v := ⟨_, rfl⟩
        rw [hq9] at d22
        refine dg_sub (E' := [(44, v38), (45, v39), (43, (.bool true))]) ⟨(congrArg some hq8), (congrArg some hq9), (congrArg some d23), trivial⟩ ?_
        refine dg_on rfl rfl rfl rfl (ow_call rfl rfl Tryd.call28 (w_impl_BoxMeet (hG.mono ((((((((((hl1.trans hl2).trans hl3).trans hl9).trans hl10).trans hl11).trans hl12).trans hl13).trans hl14).trans hl15).trans hl32)) hC32.old d21 d22 hx10) fun v40 w33 hv40 => ?_)
        obtain ⟨hv40, hb17⟩ := hv40
        have hl33 := Le.no M hb17
        have hC33 := hC32.no hb17
        exact ⟨hb17, hv40⟩
       ·
        intro w34 D hS17 hd17
        have hl34 := Le.no M hS17
        have hC34 := hC15.no hS17
        have hd17 : PEq (.bool true) (D 8) w34 ∧ True := hd17
        obtain ⟨d25, -⟩ := hd17
        refine dg_sub (E' := [(43, (.bool true)), (4, (.pointer (some p1)))]) ⟨(congrArg some d25), rfl, trivial⟩ ?_
        refine dg_on rfl rfl rfl rfl (ow_load (R := RBox) rfl rfl (ARep.mono (((((((hl9.trans hl10).trans hl11).trans hl12).trans hl13).trans hl14).trans hl15).trans hl34) hp1) (Tryd.sizeOf27 _) (Tryd.isAgg27 _) fun v41 hv41 => ?_)
        exact ⟨BX.refl _ _, hv41⟩
       ·
        intro w35 D hS18 hd18
        have hd18 : PV RBox M x2 (D 0) w35 ∧ PV RBox M x6 (D 1) w35 ∧ PEq (.bool true) (D 2) w35 ∧ PEq (.bool true) (D 3) w35 ∧ PV RBox M x2 (D 4) w35 ∧ PV RBox M x7 (D 5) w35 ∧ PEq (.bool true) (D 6) w35 ∧ PEq (.bool true) (D 7) w35 ∧ PEq (.bool true) (D 8) w35 ∧ PV RBox M x6 (D 9) w35 ∧ PV RBox M x7 (D 10) w35 ∧ PV RBox M x10 (D 11) w35 ∧ PV RBox M x2 (D 12) w35 ∧ True := hd18
        obtain ⟨-, -, -, -, -, -, -, -, d34, -, -, d37, d38, -⟩ := hd18
        have hl35 := Le.no M hS18
        have hC35 := hC15.no hS18
        obtain ⟨v42, hq10⟩ : ∃ v, (D 11) = v := ⟨_, rfl⟩
        rw [hq10] at d37
        obtain ⟨v43, hq11⟩ : ∃ v, (D 12) = v := ⟨_, rfl⟩
        rw [hq11] at d38
        refine lw_sub (E' := [(43, (.bool true)), (46, v42), (47, v43), (2, (.bool false)), (4, (.pointer (some p1))), (6, (.pointer (some p2))), (7, (.pointer (some p3)))]) ⟨(congrArg some d34), (congrArg some hq10), (congrArg some hq11), rfl, rfl, rfl, rfl, trivial⟩ ?_
        replace h := bind_some h
        obtain ⟨x11, hx11, h⟩ := h
        refine lw_on rfl rfl rfl rfl rfl rfl (ow_call rfl rfl Tryd.call17 (w_laws_sameBox (hG.mono ((((((((((hl1.trans hl2).trans hl3).trans hl9).trans hl10).trans hl11).trans hl12).trans hl13).trans hl14).trans hl15).trans hl35)) hC35.old d37 d38 hx11) fun v44 w36 hv44 => ?_)
        obtain ⟨hv44, hb18⟩ := hv44
        have hl36 := Le.no M hb18
        have hC36 := hC35.no hb18
        obtain rfl := vbool_eq hv44
        refine lw_op rfl rfl rfl (ow_pickT rfl rfl rfl ?_)
        refine lw_op rfl rfl rfl (ow_assign rfl rfl ?_)
        refine lw_nil (ew_then (cw_ret ?_))
        obtain rfl := Option.some.inj h
        exact ew_ret (res1 rfl (.tmp rfl)) ⟨_, rfl, ((vbool _)), hC36.bx⟩
      ·
       subst hc5
       refine cw_sub (E' := [(2, (.bool false)), (4, (.pointer (some p1))), (6, (.pointer (some p2))), (7, (.pointer (some p3)))]) ⟨rfl, rfl, rfl, rfl, trivial⟩ ?_
       refine cw_drawQ 13 [PV RBox M x2, PV RBox M x6, PEq (.bool true), PEq (.bool true), PV RBox M x2, PV RBox M x7, PEq (.bool false), PEq (.bool false), PEq (.bool false), PEq undef, PEq undef, PEq undef, PEq undef] (by kernel_rfl) rfl (by kernel_rfl) ⟨PV.mono _ _ _, PV.mono _ _ _, PEq.mono _, PEq.mono _, PV.mono _ _ _, PV.mono _ _ _, PEq.mono _, PEq.mono _, PEq.mono _, PEq.mono _, PEq.mono _, PEq.mono _, PEq.mono _, trivial⟩ ⟨?_, ?_, ?_, ?_, ?_, ?_, ?_, ?_, ?_, ?_, ?_, ?_, ?_, trivial⟩ ?_
       ·
        intro w37 D hS19 hd19
        have hl37 := Le.no M hS19
        have hC37 := hC15.no hS19
        refine dg_sub (E' := [(4, (.pointer (some p1)))]) ⟨rfl, trivial⟩ ?_
        refine dg_plain rfl (ow_load (R := RBox) rfl rfl (ARep.mono (((((((hl9.trans hl10).trans hl11).trans hl12).trans hl13).trans hl14).trans hl15).trans hl37) hp1) (Tryd.sizeOf27 _) (Tryd.isAgg27 _) fun v45 hv45 => ?_)
        exact ⟨BX.refl _ _, hv45⟩
       ·
        intro w38 D hS20 hd20
        have hl38 := Le.no M hS20
        have hC38 := hC15.no hS20
        refine dg_sub (E' := [(6, (.pointer (some p2)))]) ⟨rfl, trivial⟩ ?_
        refine dg_plain rfl (ow_load (R := RBox) rfl rfl (ARep.mono ((hl14.trans hl15).trans hl38) hp2) (Tryd.sizeOf27 _) (Tryd.isAgg27 _) fun v46 hv46 => ?_)
        exact ⟨BX.refl _ _, hv46⟩
       ·
        intro w39 D hS21 hd21
        have hl39 := Le.no M hS21
        have hC39 := hC15.no hS21
        have hd21 : PV RBox M x2 (D 0) w39 ∧ PV RBox M x6 (D 1) w39 ∧ True := hd21
        obtain ⟨d39, d40, -⟩ := hd21
        obtain ⟨v47, hq12⟩ : ∃ v, (D 0) = v := ⟨_, rfl⟩
        rw [hq12] at d39
        obtain ⟨v48, hq13⟩ : ∃ v, (D 1) = v := ⟨_, rfl⟩
        rw [hq13] at d40
        refine dg_sub (E' := [(35, v47), (36, v48)]) ⟨(congrArg some hq12), (congrArg some hq13), trivial⟩ ?_
        refine dg_plain rfl (ow_call rfl rfl Tryd.call27 (w_impl_BoxWithin (hG.mono ((((((((((hl1.trans hl2).trans hl3).trans hl9).trans hl10).trans hl11).trans hl12).trans hl13).trans hl14).trans hl15).trans hl39)) hC39.old d39 d40 hx8) fun v49 w40 hv49 => ?_)
        obtain ⟨hv49, hb19⟩ := hv49
        have hl40 := Le.no M hb19
        have hC40 := hC39.no hb19
        obtain rfl := vbool_eq hv49
        exact ⟨hb19, rfl⟩
       ·
        intro w41 D hS22 hd22
        have hl41 := Le.no M hS22
        have hC41 := hC15.no hS22
        have hd22 : PEq (.bool true) (D 2) w41 ∧ PEq (.bool true) (D 2) w41 ∧ True := hd22
        obtain ⟨d41, d42, -⟩ := hd22
        refine dg_sub (E' := [(37, (.bool true))]) ⟨(congrArg some d41), trivial⟩ ?_
        refine dg_plain rfl (ow_move rfl rfl ?_)
        exact ⟨BX.refl _ _, rfl⟩
       ·
        intro w42 D hS23 hd23
        have hl42 := Le.no M hS23
        have hC42 := hC15.no hS23
        have hd23 : PEq (.bool true) (D 3) w42 ∧ True := hd23
        obtain ⟨d43, -⟩ := hd23
        refine dg_sub (E' := [(38, (.bool true)), (4, (.pointer (some p1)))]) ⟨(congrArg some d43), rfl, trivial⟩ ?_
        refine dg_on rfl rfl rfl rfl (ow_load (R := RBox) rfl rfl (ARep.mono (((((((hl9.trans hl10).trans hl11).trans hl12).trans hl13).trans hl14).trans hl15).trans hl42) hp1) (Tryd.sizeOf27 _) (Tryd.isAgg27 _) fun v50 hv50 => ?_)
        exact ⟨BX.refl _ _, hv50⟩
       ·
        intro w43 D hS24 hd24
        have hl43 := Le.no M hS24
        have hC43 := hC15.no hS24
        have hd24 : PEq (.bool true) (D 3) w43 ∧ True := hd24
        obtain ⟨d44, -⟩ := hd24
        refine dg_sub (E' := [(38, (.bool true)), (7, (.pointer (some p3)))]) ⟨(congrArg some d44), rfl, trivial⟩ ?_
        refine dg_on rfl rfl rfl rfl (ow_load (R := RBox) rfl rfl (ARep.mono hl43 hp3) (Tryd.sizeOf27 _) (Tryd.isAgg27 _) fun v51 hv51 => ?_)
        exact ⟨BX.refl _ _, hv51⟩
       ·
        intro w44 D hS25 hd25
        have hl44 := Le.no M hS25
        have hC44 := hC15.no hS25
        have hd25 : PV RBox M x2 (D 4) w44 ∧ PV RBox M x7 (D 5) w44 ∧ PEq (.bool true) (D 3) w44 ∧ PEq (.bool true) (D 3) w44 ∧ True := hd25
        obtain ⟨d45, d46, d47, d48, -⟩ := hd25
        obtain ⟨v52, hq14⟩ : ∃ v, (D 4) = v := ⟨_, rfl⟩
        rw [hq14] at d45
        obtain ⟨v53, hq15⟩ : ∃ v, (D 5) = v := ⟨_, rfl⟩
        rw [hq15] at d46
        refine dg_sub (E' := [(39, v52), (40, v53), (38, (.bool true))]) ⟨(congrArg some hq14), (congrArg some hq15), (congrArg some d47), trivial⟩ ?_
        refine dg_on rfl rfl rfl rfl (ow_call rfl rfl Tryd.call27 (w_impl_BoxWithin (hG.mono ((((((((((hl1.trans hl2).trans hl3).trans hl9).trans hl10).trans hl11).trans hl12).trans hl13).trans hl14).trans hl15).trans hl44)) hC44.old d45 d46 hx9) fun v54 w45 hv54 => ?_)
        obtain ⟨hv54, hb20⟩ := hv54
        have hl45 := Le.no M hb20
        have hC45 := hC44.no hb20
        obtain rfl := vbool_eq hv54
        exact ⟨hb20, rfl⟩
       ·
        intro w46 D hS26 hd26
        have hl46 := Le.no M hS26
        have hC46 := hC15.no hS26
        have hd26 : PEq (.bool true) (D 3) w46 ∧ PEq (.bool false) (D 6) w46 ∧ True := hd26
        obtain ⟨d49, d50, -⟩ := hd26
        refine dg_sub (E' := [(38, (.bool true)), (41, (.bool false))]) ⟨(congrArg some d49), (congrArg some d50), trivial⟩ ?_
        refine dg_plain rfl (ow_pickT rfl rfl rfl ?_)
        exact ⟨BX.refl _ _, rfl⟩
       ·
        intro w47 D hS27 hd27
        have hl47 := Le.no M hS27
        have hC47 := hC15.no hS27
        have hd27 : PEq (.bool false) (D 7) w47 ∧ PEq (.bool false) (D 6) w47 ∧ True := hd27
        obtain ⟨d51, d52, -⟩ := hd27
        refine dg_sub (E' := [(42, (.bool false))]) ⟨(congrArg some d51), trivial⟩ ?_
        refine dg_plain rfl (ow_move rfl rfl ?_)
        exact ⟨BX.refl _ _, rfl⟩
       ·
        intro w48 D hS28 hd28
        have hl48 := Le.no M hS28
        have hC48 := hC15.no hS28
        have hd28 : PEq (.bool false) (D 8) w48 ∧ True := hd28
        obtain ⟨d53, -⟩ := hd28
        refine dg_sub (E' := [(43, (.bool false)), (6, (.pointer (some p2)))]) ⟨(congrArg some d53), rfl, trivial⟩ ?_
        exact dg_off rfl rfl rfl rfl ⟨BX.refl _ _, rfl⟩
       ·
        intro w49 D hS29 hd29
        have hl49 := Le.no M hS29
        have hC49 := hC15.no hS29
        have hd29 : PEq (.bool false) (D 8) w49 ∧ True := hd29
        obtain ⟨d54, -⟩ := hd29
        refine dg_sub (E' := [(43, (.bool false)), (7, (.pointer (some p3)))]) ⟨(congrArg some d54), rfl, trivial⟩ ?_
        exact dg_off rfl rfl rfl rfl ⟨BX.refl _ _, rfl⟩
       ·
        intro w50 D hS30 hd30
        have hl50 := Le.no M hS30
        have hC50 := hC15.no hS30
        have hd30 : PEq undef (D 9) w50 ∧ PEq undef (D 10) w50 ∧ PEq (.bool false) (D 8) w50 ∧ PEq (.bool false) (D 8) w50 ∧ True := hd30
        obtain ⟨d55, d56, d57, d58, -⟩ := hd30
        refine dg_sub (E' := [(44, undef), (45, undef), (43, (.bool false))]) ⟨(congrArg some d55), (congrArg some d56), (congrArg some d57), trivial⟩ ?_
        exact dg_off rfl rfl rfl rfl ⟨BX.refl _ _, rfl⟩
       ·
        intro w51 D hS31 hd31
        have hl51 := Le.no M hS31
        have hC51 := hC15.no hS31
        have hd31 : PEq (.bool false) (D 8) w51 ∧ True := hd31
        obtain ⟨d59, -⟩ := hd31
        refine dg_sub (E' := [(43, (.bool false)), (4, (.pointer (some p1)))]) ⟨(congrArg some d59), rfl, trivial⟩ ?_
        exact dg_off rfl rfl rfl rfl ⟨BX.refl _ _, rfl⟩
       ·
        intro w52 D hS32 hd32
        have hd32 : PV RBox M x2 (D 0) w52 ∧ PV RBox M x6 (D 1) w52 ∧ PEq (.bool true) (D 2) w52 ∧ PEq (.bool true) (D 3) w52 ∧ PV RBox M x2 (D 4) w52 ∧ PV RBox M x7 (D 5) w52 ∧ PEq (.bool false) (D 6) w52 ∧ PEq (.bool false) (D 7) w52 ∧ PEq (.bool false) (D 8) w52 ∧ PEq undef (D 9) w52 ∧ PEq undef (D 10) w52 ∧ PEq undef (D 11) w52 ∧ PEq undef (D 12) w52 ∧ True := hd32
        obtain ⟨-, -, -, -, -, -, -, -, d68, -, -, d71, d72, -⟩ := hd32
        have hl52 := Le.no M hS32
        have hC52 := hC15.no hS32
        refine lw_sub (E' := [(43, (.bool false)), (46, undef), (47, undef), (2, (.bool false)), (4, (.pointer (some p1))), (6, (.pointer (some p2))), (7, (.pointer (some p3)))]) ⟨(congrArg some d68), (congrArg some d71), (congrArg some d72), rfl, rfl, rfl, rfl, trivial⟩ ?_
        refine lw_off rfl rfl rfl rfl rfl rfl ?_
        refine lw_op rfl rfl rfl (ow_pickF rfl rfl rfl ?_)
        refine lw_op rfl rfl rfl (ow_assign rfl rfl ?_)
        refine lw_nil (ew_then (cw_ret ?_))
        obtain rfl := Option.some.inj h
        exact ew_ret (res1 rfl (.tmp rfl)) ⟨_, rfl, ((vbool _)), hC52.bx⟩
     ·
      subst hc4
      refine cw_sub (E' := [(2, (.bool false)), (4, (.pointer (some p1))), (6, (.pointer (some p2))), (7, (.pointer (some p3)))]) ⟨rfl, rfl, rfl, rfl, trivial⟩ ?_
      refine cw_drawQ 13 [PV RBox M x2, PV RBox M x6, PEq (.bool false), PEq (.bool false), PEq undef, PEq undef, PEq undef, PEq (.bool false), PEq (.bool false), PEq undef, PEq undef, PEq undef, PEq undef] (by kernel_rfl) rfl (by kernel_rfl) ⟨PV.mono _ _ _, PV.mono _ _ _, PEq.mono _, PEq.mono _, PEq.mono _, PEq.mono _, PEq.mono _, PEq.mono _, PEq.mono _, PEq.mono _, PEq.mono _, PEq.mono _, PEq.mono _, trivial⟩ ⟨?_, ?_, ?_, ?_, ?_, ?_, ?_, ?_, ?_, ?_, ?_, ?_, ?_, trivial⟩ ?_
      ·
       intro w53 D hS33 hd33
       have hl53 := Le.no M hS33
       have hC53 := hC15.no hS33
       refine dg_sub (E' := [(4, (.pointer (some p1)))]) ⟨rfl, trivial⟩ ?_
       refine dg_plain rfl (ow_load (R := RBox) rfl rfl (ARep.mono (((((((hl9.trans hl10).trans hl11).trans hl12).trans hl13).trans hl14).trans hl15).trans hl53) hp1) (Tryd.sizeOf27 _) (Tryd.isAgg27 _) fun v55 hv55 => ?_)
       exact ⟨BX.refl _ _, hv55⟩
      ·
       intro w54 D hS34 hd34
       have hl54 := Le.no M hS34
       have hC54 := hC15.no hS34
       refine dg_sub (E' := [(6, (.pointer (some p2)))]) ⟨rfl, trivial⟩ ?_
       refine dg_plain rfl (ow_load (R := RBox) rfl rfl (ARep.mono ((hl14.trans hl15).trans hl54) hp2) (Tryd.sizeOf27 _) (Tryd.isAgg27 _) fun v56 hv56 => ?_)
       exact ⟨BX.refl _ _, hv56⟩
      ·
       intro w55 D hS35 hd35
       have hl55 := Le.no M hS35
       have hC55 := hC15.no hS35
       have hd35 : PV RBox M x2 (D 0) w55 ∧ PV RBox M x6 (D 1) w55 ∧ True := hd35
       obtain ⟨d73, d74, -⟩ := hd35
       obtain ⟨v57, hq16⟩ : ∃ v, (D 0) = v := ⟨_, rfl⟩
       rw [hq16] at d73
       obtain ⟨v58, hq17⟩ : ∃ v, (D 1) = v := ⟨_, rfl⟩
       rw [hq17] at d74
       refine dg_sub (E' := [(35, v57), (36, v58)]) ⟨(congrArg some hq16), (congrArg some hq17), trivial⟩ ?_
       refine dg_plain rfl (ow_call rfl rfl Tryd.call27 (w_impl_BoxWithin (hG.mono ((((((((((hl1.trans hl2).trans hl3).trans hl9).trans hl10).trans hl11).trans hl12).trans hl13).trans hl14).trans hl15).trans hl55)) hC55.old d73 d74 hx8) fun v59 w56 hv59 => ?_)
       obtain ⟨hv59, hb21⟩ := hv59
       have hl56 := Le.no M hb21
       have hC56 := hC55.no hb21
       obtain rfl := vbool_eq hv59
       exact ⟨hb21, rfl⟩
      ·
       intro w57 D hS36 hd36
       have hl57 := Le.no M hS36
       have hC57 := hC15.no hS36
       have hd36 : PEq (.bool false) (D 2) w57 ∧ PEq (.bool false) (D 2) w57 ∧ True := hd36
       obtain ⟨d75, d76, -⟩ := hd36
       refine dg_sub (E' := [(37, (.bool false))]) ⟨(congrArg some d75), trivial⟩ ?_
       refine dg_plain rfl (ow_move rfl rfl ?_)
       exact ⟨BX.refl _ _, rfl⟩
      ·
       intro w58 D hS37 hd37
       have hl58 := Le.no M hS37
       have hC58 := hC15.no hS37
       have hd37 : PEq (.bool false) (D 3) w58 ∧ True := hd37
       obtain ⟨d77, -⟩ := hd37
       refine dg_sub (E' := [(38, (.bool false)), (4, (.pointer (some p1)))]) ⟨(congrArg some d77), rfl, trivial⟩ ?_
       exact dg_off rfl rfl rfl rfl ⟨BX.refl _ _, rfl⟩
      ·
       intro w59 D hS38 hd38
       have hl59 := Le.no M hS38
       have hC59 := hC15.no hS38
       have hd38 : PEq (.bool false) (D 3) w59 ∧ True := hd38
       obtain ⟨d78, -⟩ := hd38
       refine dg_sub (E' := [(38, (.bool false)), (7, (.pointer (some p3)))]) ⟨(congrArg some d78), rfl, trivial⟩ ?_
       exact dg_off rfl rfl rfl rfl ⟨BX.refl _ _, rfl⟩
      ·
       intro w60 D hS39 hd39
       have hl60 := Le.no M hS39
       have hC60 := hC15.no hS39
       have hd39 : PEq undef (D 4) w60 ∧ PEq undef (D 5) w60 ∧ PEq (.bool false) (D 3) w60 ∧ PEq (.bool false) (D 3) w60 ∧ True := hd39
       obtain ⟨d79, d80, d81, d82, -⟩ := hd39
       refine dg_sub (E' := [(39, undef), (40, undef), (38, (.bool false))]) ⟨(congrArg some d79), (congrArg some d80), (congrArg some d81), trivial⟩ ?_
       exact dg_off rfl rfl rfl rfl ⟨BX.refl _ _, rfl⟩
      ·
       intro w61 D hS40 hd40
       have hl61 := Le.no M hS40
       have hC61 := hC15.no hS40
       have hd40 : PEq (.bool false) (D 3) w61 ∧ PEq undef (D 6) w61 ∧ True := hd40
       obtain ⟨d83, d84, -⟩ := hd40
       refine dg_sub (E' := [(38, (.bool false)), (41, undef)]) ⟨(congrArg some d83), (congrArg some d84), trivial⟩ ?_
       refine dg_plain rfl (ow_pickF rfl rfl rfl ?_)
       exact ⟨BX.refl _ _, rfl⟩
      ·
       intro w62 D hS41 hd41
       have hl62 := Le.no M hS41
       have hC62 := hC15.no hS41
       have hd41 : PEq (.bool false) (D 7) w62 ∧ PEq undef (D 6) w62 ∧ True := hd41
       obtain ⟨d85, d86, -⟩ := hd41
       refine dg_sub (E' := [(42, (.bool false))]) ⟨(congrArg some d85), trivial⟩ ?_
       refine dg_plain rfl (ow_move rfl rfl ?_)
       exact ⟨BX.refl _ _, rfl⟩
      ·
       intro w63 D hS42 hd42
       have hl63 := Le.no M hS42
       have hC63 := hC15.no hS42
       have hd42 : PEq (.bool false) (D 8) w63 ∧ True := hd42
       obtain ⟨d87, -⟩ := hd42
       refine dg_sub (E' := [(43, (.bool false)), (6, (.pointer (some p2)))]) ⟨(congrArg some d87), rfl, trivial⟩ ?_
       exact dg_off rfl rfl rfl rfl ⟨BX.refl _ _, rfl⟩
      ·
       intro w64 D hS43 hd43
       have hl64 := Le.no M hS43
       have hC64 := hC15.no hS43
       have hd43 : PEq (.bool false) (D 8) w64 ∧ True := hd43
       obtain ⟨d88, -⟩ := hd43
       refine dg_sub (E' := [(43, (.bool false)), (7, (.pointer (some p3)))]) ⟨(congrArg some d88), rfl, trivial⟩ ?_
       exact dg_off rfl rfl rfl rfl ⟨BX.refl _ _, rfl⟩
      ·
       intro w65 D hS44 hd44
       have hl65 := Le.no M hS44
       have hC65 := hC15.no hS44
       have hd44 : PEq undef (D 9) w65 ∧ PEq undef (D 10) w65 ∧ PEq (.bool false) (D 8) w65 ∧ PEq (.bool false) (D 8) w65 ∧ True := hd44
       obtain ⟨d89, d90, d91, d92, -⟩ := hd44
       refine dg_sub (E' := [(44, undef), (45, undef), (43, (.bool false))]) ⟨(congrArg some d89), (congrArg some d90), (congrArg some d91), trivial⟩ ?_
       exact dg_off rfl rfl rfl rfl ⟨BX.refl _ _, rfl⟩
      ·
       intro w66 D hS45 hd45
       have hl66 := Le.no M hS45
       have hC66 := hC15.no hS45
       have hd45 : PEq (.bool false) (D 8) w66 ∧ True := hd45
       obtain ⟨d93, -⟩ := hd45
       refine dg_sub (E' := [(43, (.bool false)), (4, (.pointer (some p1)))]) ⟨(congrArg some d93), rfl, trivial⟩ ?_
       exact dg_off rfl rfl rfl rfl ⟨BX.refl _ _, rfl⟩
      ·
       intro w67 D hS46 hd46
       have hd46 : PV RBox M x2 (D 0) w67 ∧ PV RBox M x6 (D 1) w67 ∧ PEq (.bool false) (D 2) w67 ∧ PEq (.bool false) (D 3) w67 ∧ PEq undef (D 4) w67 ∧ PEq undef (D 5) w67 ∧ PEq undef (D 6) w67 ∧ PEq (.bool false) (D 7) w67 ∧ PEq (.bool false) (D 8) w67 ∧ PEq undef (D 9) w67 ∧ PEq undef (D 10) w67 ∧ PEq undef (D 11) w67 ∧ PEq undef (D 12) w67 ∧ True := hd46
       obtain ⟨-, -, -, -, -, -, -, -, d102, -, -, d105, d106, -⟩ := hd46
       have hl67 := Le.no M hS46
       have hC67 := hC15.no hS46
       refine lw_sub (E' := [(43, (.bool false)), (46, undef), (47, undef), (2, (.bool false)), (4, (.pointer (some p1))), (6, (.pointer (some p2))), (7, (.pointer (some p3)))]) ⟨(congrArg some d102), (congrArg some d105), (congrArg some d106), rfl, rfl, rfl, rfl, trivial⟩ ?_
       refine lw_off rfl rfl rfl rfl rfl rfl ?_
       refine lw_op rfl rfl rfl (ow_pickF rfl rfl rfl ?_)
       refine lw_op rfl rfl rfl (ow_assign rfl rfl ?_)
       refine lw_nil (ew_then (cw_ret ?_))
       obtain rfl := Option.some.inj h
       exact ew_ret (res1 rfl (.tmp rfl)) ⟨_, rfl, ((vbool _)), hC67.bx⟩
    ·
     subst hc3
     refine cw_true rfl ?_
     refine cw_seq (cw_region ?_)
     replace h := bind_some h
     obtain ⟨x12, hx12, h⟩ := h
     refine lw_op rfl rfl rfl (ow_call rfl rfl Tryd.call19 (w_laws_alive (hG.mono (((((hl1.trans hl2).trans hl3).trans hl9).trans hl10).trans hl11)) hC11.old hx12) fun v60 w68 hv60 => ?_)
     obtain ⟨hv60, hb22⟩ := hv60
     have hl68 := Le.no M hb22
     have hC68 := hC11.no hb22
     obtain rfl := vbool_eq hv60
     refine lw_op rfl rfl rfl (ow_assign rfl rfl ?_)
     refine lw_nil (ew_then (cw_ret (ew_thenR ?_)))
     obtain rfl := Option.some.inj h
     exact ew_ret (res1 rfl (.tmp rfl)) ⟨_, rfl, ((vbool _)), hC68.bx⟩
   ·
    subst hc2
    refine cw_true rfl ?_
    refine cw_seq (cw_region (lw_op rfl rfl rfl (ow_assign rfl rfl ?_)))
    refine lw_nil (ew_then (cw_ret (ew_thenR ?_)))
    obtain rfl := Option.some.inj h
    exact ew_ret (res1 rfl (.tmp rfl)) ⟨_, rfl, ((vbool _)), hC10.bx⟩


end Go.PF
