/- The walks; no condition. -/
import Derived.Test.YtfoodjhnagclfaaDoorProg
import Derived.Test.YtfoodjhnagclfaaDoorWk1
import Derived.Test.YtfoodjhnagclfaaDoorPFChain
set_option maxRecDepth 100000
set_option maxHeartbeats 4000000
namespace Go.PF
open Go Go.RowKit Go.Proofs

theorem w_spec_BoxAll {w : World} {M : Nat → Prop} (hG : ARep (RArr 4 RShape) w M shapes ⟨0, 0, none⟩) (hO : ∀ b, M b → b < w.heap.size)  {r : Box} (h : F.spec_BoxAll = some r) :
    Calls Tryd.prog 152 [].toArray w fun e w' => ∃ v, e = .returned v ∧ VRep RBox w' M r v ∧ BX No w w' := by
  obtain ⟨i93, hi93, hz93, hs93, hy93⟩ := info93
  have hC : Cx No w M w M := Cx.start hO (fun _ e => e.elim)
  refine walk (N := 18) Tryd.func152 rfl Tryd.ntmps152 rfl ?_
  refine cw_seq ?_
  refine cw_region ?_
  refine lw_op rfl rfl rfl (ow_alloc rfl (Tryd.zeroValue29 _) hC fun g1 w1 hg1 hg2 ho1 hb1 hl1 hC1 => ?_)
  have hm1 : (Add g1 M) g1 := .inl rfl
  refine lw_nil ?_
  refine ew_then ?_
  refine cw_seq ?_
  refine cw_region ?_
  refine lw_op rfl rfl rfl (ow_build (v := .agg #[(.slice none 0 0)]) rfl rfl (by kernel_rfl) ?_)
  have hw1 : VRep RBox w1 (Add g1 M) ({ Sides := ([] : List (List Span)) } : Box) (.agg #[(.slice none 0 0)]) := shut_Box (vslice_nil (R := (RSlice RSpan)) (w := w1) (M := (Add g1 M)))
  refine lw_op rfl rfl rfl (ow_alloc rfl (Tryd.zeroValue29 _) hC1 fun g2 w2 hg3 hg4 ho2 hb2 hl2 hC2 => ?_)
  have hn1 := Nat.ne_of_lt (Nat.lt_of_lt_of_le ho1.lt hg3)
  have ho3 := ho1.no hb2
  have hm2 : (Add g2 (Add g1 M)) g1 := .inr hm1
  have hm3 : (Add g2 (Add g1 M)) g2 := .inl rfl
  refine lw_op0 rfl rfl (ow_store (X := No) (us := [(.slice none 0 0)]) (cs' := #[(.slice none 0 0)]) rfl rfl rfl rfl ho2 (Tryd.sizeOf29 _) rfl rfl rfl rfl hm3 (.inl hg4) rfl hC2 fun w3 ho4 hb3 hl3 hC3 => ?_)
  have ho5 := ho3.go hb3 (fun e => hn1 e)
  refine lw_nil ?_
  refine ew_then ?_
  refine cw_seq ?_
  refine cw_seq ?_
  refine cw_region ?_
  refine lw_op rfl rfl rfl (ow_assign rfl rfl ?_)
  refine lw_nil ?_
  refine ew_then ?_
  have hr1 : OwnRow (RSlice RSpan) w.heap.size 93 w3 (Add g2 (Add g1 M)) ([] : List (List Span)) (.slice none 0 0) := ownrow_nil
  replace h := bind_some h
  obtain ⟨lr1, hlr1, h⟩ := h
  refine cw_for hlr1 (fun s a w' => ∃ (M' : Nat → Prop) (v1c : Value), Fits 18 [(0, (.pointer (some ⟨g1, 0, none⟩))), (1, (.pointer (some ⟨g2, 0, none⟩))), (2, (.int .i64 s.1))] a ∧ Le w3 (Add g2 (Add g1 M)) w' M' ∧ Cx No w M w' M' ∧ OwnRow (RSlice RSpan) w.heap.size 93 w' M' s.2 v1c ∧ Own w' g1 29 #[(.slice none 0 0)] ∧ M' g1 ∧ Own w' g2 29 #[v1c] ∧ M' g2) ?_ ?_ ?_
  · intro a ha
    exact ⟨(Add g2 (Add g1 M)), (.slice none 0 0), ha.sub ⟨rfl, rfl, rfl, trivial⟩, Le.refl _ _, hC3, hr1, ho5, hm2, ho4, hm3⟩
  · rintro ⟨k1, y1⟩ a w4 sr1 ⟨M1, v2, hF1, hl4, hC4, hw2, ho6, hm4, ho7, hm5⟩ hb4 hR1
    refine cw_at (E := [(0, (.pointer (some ⟨g1, 0, none⟩))), (1, (.pointer (some ⟨g2, 0, none⟩))), (2, (.int .i64 k1))]) hF1 ?_
    refine cw_seq ?_
    refine cw_seq ?_
    refine cw_region ?_
    refine lw_op rfl rfl rfl (ow_move rfl rfl ?_)
    refine lw_op rfl rfl rfl (ow_lss rfl rfl rfl fun bb1 hbb1 => ?_)
    refine lw_nil ?_
    refine ew_then ?_
    replace hb4 := cond_some hb4
    rcases hb4 with ⟨hc1, hb4⟩ | ⟨hc1, hb4⟩
    · obtain rfl := hbb1.trans hc1
      refine cw_true rfl ?_
      refine cw_skip ?_
      refine ew_then ?_
      refine cw_seq ?_
      refine cw_block ?_
      replace hb4 := bind_some hb4
      obtain ⟨x1, hx1, hb4⟩ := hb4
      refine cw_sub (E' := [(0, (.pointer (some ⟨g1, 0, none⟩))), (1, (.pointer (some ⟨g2, 0, none⟩))), (2, (.int .i64 k1))]) ⟨rfl, rfl, rfl, trivial⟩ ?_
      refine cw_drawQ 7 [PEq (.pointer (some ⟨g2, 0, none⟩)), PEq v2, PEq (.int .i64 k1), PEq (.int .i64 x1), PV RSpan M1 ({ Lo := 0, Hi := x1 } : Span), PV (RSlice RSpan) M1 [({ Lo := 0, Hi := x1 } : Span)], PV (RSlice (RSlice RSpan)) M1 [[({ Lo := 0, Hi := x1 } : Span)]]] (by kernel_rfl) rfl (by kernel_rfl) ⟨PEq.mono _, PEq.mono _, PEq.mono _, PEq.mono _, PV.mono _ _ _, PV.mono _ _ _, PV.mono _ _ _, trivial⟩ ⟨?_, ?_, ?_, ?_, ?_, ?_, ?_, trivial⟩ ?_
      · intro w8 D hS1 hd1
        have hl8 := Le.no M1 hS1
        have hC8 := hC4.no hS1
        have ho14 := ho6.no hS1
        have ho15 := ho7.no hS1
        have hr5 := hw2.no hS1
        refine dg_sub (E' := [(1, (.pointer (some ⟨g2, 0, none⟩)))]) ⟨rfl, trivial⟩ ?_
        refine dg_plain rfl (ow_fieldAddr rfl rfl Tryd.underlying29 rfl (Tryd.sizeOf27 _) ?_)
        exact ⟨BX.refl _ _, rfl⟩
      · intro w9 D hS2 hd2
        have hl9 := Le.no M1 hS2
        have hC9 := hC4.no hS2
        have ho16 := ho6.no hS2
        have ho17 := ho7.no hS2
        have hr6 := hw2.no hS2
        have hd2 : PEq (.pointer (some ⟨g2, 0, none⟩)) (D 0) w9 ∧ True := hd2
        obtain ⟨d1, -⟩ := hd2
        refine dg_sub (E' := [(8, (.pointer (some ⟨g2, 0, none⟩)))]) ⟨(congrArg some d1), trivial⟩ ?_
        refine dg_plain rfl (ow_loadOwn1 rfl rfl rfl ho17 (Tryd.isAgg27 _) rfl ?_)
        exact ⟨BX.refl _ _, rfl⟩
      · intro w10 D hS3 hd3
        have hl10 := Le.no M1 hS3
        have hC10 := hC4.no hS3
        have ho18 := ho6.no hS3
        have ho19 := ho7.no hS3
        have hr7 := hw2.no hS3
        refine dg_sub (E' := [(2, (.int .i64 k1))]) ⟨rfl, trivial⟩ ?_
        refine dg_plain rfl (ow_move rfl rfl ?_)
        exact ⟨BX.refl _ _, rfl⟩
      · intro w11 D hS4 hd4
        have hl11 := Le.no M1 hS4
        have hC11 := hC4.no hS4
        have ho20 := ho6.no hS4
        have ho21 := ho7.no hS4
        have hr8 := hw2.no hS4
        have hd4 : PEq (.int .i64 k1) (D 2) w11 ∧ True := hd4
        obtain ⟨d2, -⟩ := hd4
        refine dg_sub (E' := [(10, (.int .i64 k1))]) ⟨(congrArg some d2), trivial⟩ ?_
        refine dg_plain rfl (ow_call rfl rfl Tryd.call109 (w_spec_FieldTop (hG.mono ((((hl1.trans hl2).trans hl3).trans hl4).trans hl11)) hC11.old hx1) fun v4 w12 hv4 => ?_)
        obtain ⟨hv4, hb8⟩ := hv4
        have hl12 := Le.no M1 hb8
        have hC12 := hC11.no hb8
        have ho22 := ho20.no hb8
        have ho23 := ho21.no hb8
        have hr9 := hr8.no hb8
        obtain rfl := vint_eq hv4
        exact ⟨hb8, rfl⟩
      · intro w13 D hS5 hd5
        have hl13 := Le.no M1 hS5
        have hC13 := hC4.no hS5
        have ho24 := ho6.no hS5
        have ho25 := ho7.no hS5
        have hr10 := hw2.no hS5
        have hd5 : PEq (.int .i64 x1) (D 3) w13 ∧ True := hd5
        obtain ⟨d3, -⟩ := hd5
        refine dg_sub (E' := [(11, (.int .i64 x1))]) ⟨(congrArg some d3), trivial⟩ ?_
        refine dg_plain rfl (ow_build (v := .agg #[(.int .i64 0), (.int .i64 x1)]) rfl rfl (by kernel_rfl) ?_)
        have hw6 : VRep RSpan w13 M1 ({ Lo := 0, Hi := x1 } : Span) (.agg #[(.int .i64 0), (.int .i64 x1)]) := shut_Span
        exact ⟨BX.refl _ _, hw6⟩
      · intro w14 D hS6 hd6
        have hl14 := Le.no M1 hS6
        have hC14 := hC4.no hS6
        have ho26 := ho6.no hS6
        have ho27 := ho7.no hS6
        have hr11 := hw2.no hS6
        have hd6 : PV RSpan M1 ({ Lo := 0, Hi := x1 } : Span) (D 4) w14 ∧ True := hd6
        obtain ⟨d4, -⟩ := hd6
        obtain ⟨v5, hq1⟩ : ∃ v, (D 4) = v := ⟨_, rfl⟩
        rw [hq1] at d4
        refine dg_sub (E' := [(12, v5)]) ⟨(congrArg some hq1), trivial⟩ ?_
        obtain rfl := open_Span d4
        refine dg_plain rfl (ow_buildSlice (R := RSpan) (xs := [({ Lo := 0, Hi := x1 } : Span)]) (cs := #[(.int .i64 ({ Lo := 0, Hi := x1 } : Span).Lo), (.int .i64 ({ Lo := 0, Hi := x1 } : Span).Hi)]) (e := 140) rfl rfl (by kernel_rfl) rfl rfl ⟨_, _, rfl, d4.cells, rfl⟩ hC14 fun p3 w15 hw7 hb9 hl15 hC15 => ?_)
        have ho28 := ho26.no hb9
        have ho29 := ho27.no hb9
        have hr12 := hr11.no hb9
        exact ⟨hb9, hw7⟩
      · intro w16 D hS7 hd7
        have hl16 := Le.no M1 hS7
        have hC16 := hC4.no hS7
        have ho30 := ho6.no hS7
        have ho31 := ho7.no hS7
        have hr13 := hw2.no hS7
        have hd7 : PV (RSlice RSpan) M1 [({ Lo := 0, Hi := x1 } : Span)] (D 5) w16 ∧ True := hd7
        obtain ⟨d5, -⟩ := hd7
        obtain ⟨v6, hq2⟩ : ∃ v, (D 5) = v := ⟨_, rfl⟩
        rw [hq2] at d5
        refine dg_sub (E' := [(13, v6)]) ⟨(congrArg some hq2), trivial⟩ ?_
        obtain ⟨A1, c1, rfl, -⟩ := vslice_shape d5
        refine dg_plain rfl (ow_buildSlice (R := (RSlice RSpan)) (xs := [[({ Lo := 0, Hi := x1 } : Span)]]) (cs := #[(.slice A1 [({ Lo := 0, Hi := x1 } : Span)].length c1)]) (e := 93) rfl rfl (by kernel_rfl) rfl rfl ⟨_, _, rfl, d5.cells, rfl⟩ hC16 fun p4 w17 hw8 hb10 hl17 hC17 => ?_)
        have ho32 := ho30.no hb10
        have ho33 := ho31.no hb10
        have hr14 := hr13.no hb10
        exact ⟨hb10, hw8⟩
      · intro w18 D hS8 hd8
        have hl18 := Le.no M1 hS8
        have hC18 := hC4.no hS8
        have ho34 := ho6.no hS8
        have ho35 := ho7.no hS8
        have hr15 := hw2.no hS8
        have hd8 : PEq (.pointer (some ⟨g2, 0, none⟩)) (D 0) w18 ∧ PEq v2 (D 1) w18 ∧ PEq (.int .i64 k1) (D 2) w18 ∧ PEq (.int .i64 x1) (D 3) w18 ∧ PV RSpan M1 ({ Lo := 0, Hi := x1 } : Span) (D 4) w18 ∧ PV (RSlice RSpan) M1 [({ Lo := 0, Hi := x1 } : Span)] (D 5) w18 ∧ PV (RSlice (RSlice RSpan)) M1 [[({ Lo := 0, Hi := x1 } : Span)]] (D 6) w18 ∧ True := hd8
        obtain ⟨-, d7, -, -, -, -, d12, -⟩ := hd8
        obtain ⟨v7, hq3⟩ : ∃ v, (D 6) = v := ⟨_, rfl⟩
        rw [hq3] at d12
        refine lw_sub (E' := [(9, v2), (14, v7), (0, (.pointer (some ⟨g1, 0, none⟩))), (1, (.pointer (some ⟨g2, 0, none⟩))), (2, (.int .i64 k1))]) ⟨(congrArg some d7), (congrArg some hq3), rfl, rfl, rfl, trivial⟩ ?_
        replace hb4 := bind_some hb4
        obtain ⟨z1, hz1, hb4⟩ := hb4
        refine lw_op rfl rfl rfl (ow_append (R := (RSlice RSpan)) rfl rfl rfl rfl Tryd.underlying27 hi93 hz93 hs93 hy93 rfl rfl rfl rfl hr15 d12 hz1 hC18 fun v8 w19 M2 hr16 hb11 hl19 hC19 hM1 hat1 => ?_)
        have ho36 := ho34.go hb11 (fun e => (orow_ne hr15 ho34 (by decide)) e)
        have hm6 := hM1 _ hm4
        have ho37 := ho35.go hb11 (fun e => (orow_ne hr15 ho35 (by decide)) e)
        have hm7 := hM1 _ hm5
        refine lw_op rfl rfl rfl (ow_fieldAddr rfl rfl Tryd.underlying29 rfl (Tryd.sizeOf27 _) ?_)
        obtain ⟨A2, c2, rfl⟩ := hr16.len
        refine lw_op0 rfl rfl (ow_store (X := No) (us := [(.slice A2 z1.length c2)]) (cs' := #[(.slice A2 z1.length c2)]) rfl rfl rfl rfl ho37 (Tryd.sizeOf27 _) rfl rfl rfl rfl hm7 (.inl hg4) rfl hC19 fun w20 ho38 hb12 hl20 hC20 => ?_)
        have ho39 := ho36.go hb12 (fun e => hn1 e)
        have hr17 := hr16.go hb12 (fun k hk e => (orow_ne hr16 ho37 (by decide)) (hk.trans (congrArg some e))) hl20 (fun _ h => h)
        refine lw_nil ?_
        refine ew_blockN ?_
        refine ew_then ?_
        refine cw_region ?_
        refine lw_op rfl rfl rfl (ow_move rfl rfl ?_)
        refine lw_op rfl rfl rfl (ow_add rfl rfl rfl ?_)
        refine lw_op rfl rfl rfl (ow_assign rfl rfl ?_)
        refine lw_nil ?_
        refine ew_nxt ((W (k1 + 1)), z1) hb4 fun a ha => ⟨M2, (.slice A2 z1.length c2), ?_, (((hl4.trans hl18).trans hl19).trans hl20), hC20, hr17, ho39, hm6, ho38, hm7⟩
        exact ha.sub ⟨rfl, rfl, rfl, trivial⟩
    · obtain rfl := hbb1.trans hc1
      refine cw_false rfl ?_
      refine cw_exit ?_
      refine ew_thenX ?_
      refine ew_thenX ?_
      refine ew_blockX ?_
      refine ew_brk (k1, y1) hb4 fun a ha => ⟨M1, v2, ?_, hl4, hC4, hw2, ho6, hm4, ho7, hm5⟩
      exact ha.sub ⟨rfl, rfl, rfl, trivial⟩
  · rintro ⟨k2, y2⟩ a w21 hlr2 ⟨M3, v10, hF2, hl21, hC21, hw9, ho40, hm8, ho41, hm9⟩
    subst hlr2
    refine ew_at (E := [(0, (.pointer (some ⟨g1, 0, none⟩))), (1, (.pointer (some ⟨g2, 0, none⟩))), (2, (.int .i64 k2))]) hF2 ?_
    refine ew_then ?_
    refine cw_seq ?_
    refine cw_region ?_
    refine lw_op rfl rfl rfl (ow_loadOwnA rfl rfl rfl ho41 (Tryd.isAgg29 _) (Tryd.sizeOf29 _) rfl ?_)
    have hw10 := hw9.freezeDel
    have hC22 := hw9.cxDel hC21 (fun _ e => e.elim) hO
    have hl22 := Le.del w21 M3 v10
    have hm10 : (Del v10 M3) g1 := ⟨hm8, fun e => (orow_ne hw9 ho40 (by decide)) e⟩
    have hm11 : (Del v10 M3) g2 := ⟨hm9, fun e => (orow_ne hw9 ho41 (by decide)) e⟩
    obtain ⟨A3, c3, rfl, -⟩ := vslice_shape hw10
    have hw11 : VRep RBox w21 (Del (.slice A3 y2.length c3) M3) ({ Sides := y2 } : Box) (.agg #[(.slice A3 y2.length c3)]) := shut_Box hw10
    refine lw_op0 rfl rfl (ow_store (X := No) (us := [(.slice A3 y2.length c3)]) (cs' := #[(.slice A3 y2.length c3)]) rfl rfl rfl rfl ho40 (Tryd.sizeOf29 _) rfl rfl rfl rfl hm10 (.inl hg2) rfl hC22 fun w22 ho42 hb13 hl23 hC23 => ?_)
    have ho43 := ho41.go hb13 (fun e => hn1 e.symm)
    refine lw_nil ?_
    refine ew_then ?_
    refine cw_ret ?_
    have hw12 : VRep RBox w22 (Del (.slice A3 y2.length c3) M3) ({ Sides := y2 } : Box) (.agg #[(.slice A3 y2.length c3)]) := shut_Box (VRep.mono hl23 hw10)
    obtain rfl := Option.some.inj h
    exact ew_ret (res1 rfl (.cell rfl (own_loadVarA ho42 (Tryd.isAgg29 _) (Tryd.sizeOf29 _) rfl))) ⟨_, rfl, (hw12.mono hC23.back), hC23.bx⟩

theorem wo_spec_BoxAll {w : World} {M : Nat → Prop} (hG : ARep (RArr 4 RShape) w M shapes ⟨0, 0, none⟩) (hO : ∀ b, M b → b < w.heap.size)  {r : Box} (h : F.spec_BoxAll = some r) :
    Calls Tryd.prog 152 [].toArray w fun e w' => ∃ v, e = .returned v ∧ (∃ M' u, v = .agg #[u] ∧ OwnRow (RSlice RSpan) w.heap.size 93 w' M' r.Sides u ∧ Cx No w M w' M') ∧ BX No w w' := by
  obtain ⟨i93, hi93, hz93, hs93, hy93⟩ := info93
  have hC : Cx No w M w M := Cx.start hO (fun _ e => e.elim)
  refine walk (N := 18) Tryd.func152 rfl Tryd.ntmps152 rfl ?_
  refine cw_seq ?_
  refine cw_region ?_
  refine lw_op rfl rfl rfl (ow_alloc rfl (Tryd.zeroValue29 _) hC fun g1 w1 hg1 hg2 ho1 hb1 hl1 hC1 => ?_)
  have hm1 : (Add g1 M) g1 := .inl rfl
  refine lw_nil ?_
  refine ew_then ?_
  refine cw_seq ?_
  refine cw_region ?_
  refine lw_op rfl rfl rfl (ow_build (v := .agg #[(.slice none 0 0)]) rfl rfl (by kernel_rfl) ?_)
  have hw1 : VRep RBox w1 (Add g1 M) ({ Sides := ([] : List (List Span)) } : Box) (.agg #[(.slice none 0 0)]) := shut_Box (vslice_nil (R := (RSlice RSpan)) (w := w1) (M := (Add g1 M)))
  refine lw_op rfl rfl rfl (ow_alloc rfl (Tryd.zeroValue29 _) hC1 fun g2 w2 hg3 hg4 ho2 hb2 hl2 hC2 => ?_)
  have hn1 := Nat.ne_of_lt (Nat.lt_of_lt_of_le ho1.lt hg3)
  have ho3 := ho1.no hb2
  have hm2 : (Add g2 (Add g1 M)) g1 := .inr hm1
  have hm3 : (Add g2 (Add g1 M)) g2 := .inl rfl
  refine lw_op0 rfl rfl (ow_store (X := No) (us := [(.slice none 0 0)]) (cs' := #[(.slice none 0 0)]) rfl rfl rfl rfl ho2 (Tryd.sizeOf29 _) rfl rfl rfl rfl hm3 (.inl hg4) rfl hC2 fun w3 ho4 hb3 hl3 hC3 => ?_)
  have ho5 := ho3.go hb3 (fun e => hn1 e)
  refine lw_nil ?_
  refine ew_then ?_
  refine cw_seq ?_
  refine cw_seq ?_
  refine cw_region ?_
  refine lw_op rfl rfl rfl (ow_assign rfl rfl ?_)
  refine lw_nil ?_
  refine ew_then ?_
  have hr1 : OwnRow (RSlice RSpan) w.heap.size 93 w3 (Add g2 (Add g1 M)) ([] : List (List Span)) (.slice none 0 0) := ownrow_nil
  replace h := bind_some h
  obtain ⟨lr1, hlr1, h⟩ := h
  refine cw_for hlr1 (fun s a w' => ∃ (M' : Nat → Prop) (v1c : Value), Fits 18 [(0, (.pointer (some ⟨g1, 0, none⟩))), (1, (.pointer (some ⟨g2, 0, none⟩))), (2, (.int .i64 s.1))] a ∧ Le w3 (Add g2 (Add g1 M)) w' M' ∧ Cx No w M w' M' ∧ OwnRow (RSlice RSpan) w.heap.size 93 w' M' s.2 v1c ∧ Own w' g1 29 #[(.slice none 0 0)] ∧ M' g1 ∧ Own w' g2 29 #[v1c] ∧ M' g2) ?_ ?_ ?_
  · intro a ha
    exact ⟨(Add g2 (Add g1 M)), (.slice none 0 0), ha.sub ⟨rfl, rfl, rfl, trivial⟩, Le.refl _ _, hC3, hr1, ho5, hm2, ho4, hm3⟩
  · rintro ⟨k1, y1⟩ a w4 sr1 ⟨M1, v2, hF1, hl4, hC4, hw2, ho6, hm4, ho7, hm5⟩ hb4 hR1
    refine cw_at (E := [(0, (.pointer (some ⟨g1, 0, none⟩))), (1, (.pointer (some ⟨g2, 0, none⟩))), (2, (.int .i64 k1))]) hF1 ?_
    refine cw_seq ?_
    refine cw_seq ?_
    refine cw_region ?_
    refine lw_op rfl rfl rfl (ow_move rfl rfl ?_)
    refine lw_op rfl rfl rfl (ow_lss rfl rfl rfl fun bb1 hbb1 => ?_)
    refine lw_nil ?_
    refine ew_then ?_
    replace hb4 := cond_some hb4
    rcases hb4 with ⟨hc1, hb4⟩ | ⟨hc1, hb4⟩
    · obtain rfl := hbb1.trans hc1
      refine cw_true rfl ?_
      refine cw_skip ?_
      refine ew_then ?_
      refine cw_seq ?_
      refine cw_block ?_
      replace hb4 := bind_some hb4
      obtain ⟨x1, hx1, hb4⟩ := hb4
      refine cw_sub (E' := [(0, (.pointer (some ⟨g1, 0, none⟩))), (1, (.pointer (some ⟨g2, 0, none⟩))), (2, (.int .i64 k1))]) ⟨rfl, rfl, rfl, trivial⟩ ?_
      refine cw_drawQ 7 [PEq (.pointer (some ⟨g2, 0, none⟩)), PEq v2, PEq (.int .i64 k1), PEq (.int .i64 x1), PV RSpan M1 ({ Lo := 0, Hi := x1 } : Span), PV (RSlice RSpan) M1 [({ Lo := 0, Hi := x1 } : Span)], PV (RSlice (RSlice RSpan)) M1 [[({ Lo := 0, Hi := x1 } : Span)]]] (by kernel_rfl) rfl (by kernel_rfl) ⟨PEq.mono _, PEq.mono _, PEq.mono _, PEq.mono _, PV.mono _ _ _, PV.mono _ _ _, PV.mono _ _ _, trivial⟩ ⟨?_, ?_, ?_, ?_, ?_, ?_, ?_, trivial⟩ ?_
      · intro w8 D hS1 hd1
        have hl8 := Le.no M1 hS1
        have hC8 := hC4.no hS1
        have ho14 := ho6.no hS1
        have ho15 := ho7.no hS1
        have hr5 := hw2.no hS1
        refine dg_sub (E' := [(1, (.pointer (some ⟨g2, 0, none⟩)))]) ⟨rfl, trivial⟩ ?_
        refine dg_plain rfl (ow_fieldAddr rfl rfl Tryd.underlying29 rfl (Tryd.sizeOf27 _) ?_)
        exact ⟨BX.refl _ _, rfl⟩
      · intro w9 D hS2 hd2
        have hl9 := Le.no M1 hS2
        have hC9 := hC4.no hS2
        have ho16 := ho6.no hS2
        have ho17 := ho7.no hS2
        have hr6 := hw2.no hS2
        have hd2 : PEq (.pointer (some ⟨g2, 0, none⟩)) (D 0) w9 ∧ True := hd2
        obtain ⟨d1, -⟩ := hd2
        refine dg_sub (E' := [(8, (.pointer (some ⟨g2, 0, none⟩)))]) ⟨(congrArg some d1), trivial⟩ ?_
        refine dg_plain rfl (ow_loadOwn1 rfl rfl rfl ho17 (Tryd.isAgg27 _) rfl ?_)
        exact ⟨BX.refl _ _, rfl⟩
      · intro w10 D hS3 hd3
        have hl10 := Le.no M1 hS3
        have hC10 := hC4.no hS3
        have ho18 := ho6.no hS3
        have ho19 := ho7.no hS3
        have hr7 := hw2.no hS3
        refine dg_sub (E' := [(2, (.int .i64 k1))]) ⟨rfl, trivial⟩ ?_
        refine dg_plain rfl (ow_move rfl rfl ?_)
        exact ⟨BX.refl _ _, rfl⟩
      · intro w11 D hS4 hd4
        have hl11 := Le.no M1 hS4
        have hC11 := hC4.no hS4
        have ho20 := ho6.no hS4
        have ho21 := ho7.no hS4
        have hr8 := hw2.no hS4
        have hd4 : PEq (.int .i64 k1) (D 2) w11 ∧ True := hd4
        obtain ⟨d2, -⟩ := hd4
        refine dg_sub (E' := [(10, (.int .i64 k1))]) ⟨(congrArg some d2), trivial⟩ ?_
        refine dg_plain rfl (ow_call rfl rfl Tryd.call109 (w_spec_FieldTop (hG.mono ((((hl1.trans hl2).trans hl3).trans hl4).trans hl11)) hC11.old hx1) fun v4 w12 hv4 => ?_)
        obtain ⟨hv4, hb8⟩ := hv4
        have hl12 := Le.no M1 hb8
        have hC12 := hC11.no hb8
        have ho22 := ho20.no hb8
        have ho23 := ho21.no hb8
        have hr9 := hr8.no hb8
        obtain rfl := vint_eq hv4
        exact ⟨hb8, rfl⟩
      · intro w13 D hS5 hd5
        have hl13 := Le.no M1 hS5
        have hC13 := hC4.no hS5
        have ho24 := ho6.no hS5
        have ho25 := ho7.no hS5
        have hr10 := hw2.no hS5
        have hd5 : PEq (.int .i64 x1) (D 3) w13 ∧ True := hd5
        obtain ⟨d3, -⟩ := hd5
        refine dg_sub (E' := [(11, (.int .i64 x1))]) ⟨(congrArg some d3), trivial⟩ ?_
        refine dg_plain rfl (ow_build (v := .agg #[(.int .i64 0), (.int .i64 x1)]) rfl rfl (by kernel_rfl) ?_)
        have hw6 : VRep RSpan w13 M1 ({ Lo := 0, Hi := x1 } : Span) (.agg #[(.int .i64 0), (.int .i64 x1)]) := shut_Span
        exact ⟨BX.refl _ _, hw6⟩
      · intro w14 D hS6 hd6
        have hl14 := Le.no M1 hS6
        have hC14 := hC4.no hS6
        have ho26 := ho6.no hS6
        have ho27 := ho7.no hS6
        have hr11 := hw2.no hS6
        have hd6 : PV RSpan M1 ({ Lo := 0, Hi := x1 } : Span) (D 4) w14 ∧ True := hd6
        obtain ⟨d4, -⟩ := hd6
        obtain ⟨v5, hq1⟩ : ∃ v, (D 4) = v := ⟨_, rfl⟩
        rw [hq1] at d4
        refine dg_sub (E' := [(12, v5)]) ⟨(congrArg some hq1), trivial⟩ ?_
        obtain rfl := open_Span d4
        refine dg_plain rfl (ow_buildSlice (R := RSpan) (xs := [({ Lo := 0, Hi := x1 } : Span)]) (cs := #[(.int .i64 ({ Lo := 0, Hi := x1 } : Span).Lo), (.int .i64 ({ Lo := 0, Hi := x1 } : Span).Hi)]) (e := 140) rfl rfl (by kernel_rfl) rfl rfl ⟨_, _, rfl, d4.cells, rfl⟩ hC14 fun p3 w15 hw7 hb9 hl15 hC15 => ?_)
        have ho28 := ho26.no hb9
        have ho29 := ho27.no hb9
        have hr12 := hr11.no hb9
        exact ⟨hb9, hw7⟩
      · intro w16 D hS7 hd7
        have hl16 := Le.no M1 hS7
        have hC16 := hC4.no hS7
        have ho30 := ho6.no hS7
        have ho31 := ho7.no hS7
        have hr13 := hw2.no hS7
        have hd7 : PV (RSlice RSpan) M1 [({ Lo := 0, Hi := x1 } : Span)] (D 5) w16 ∧ True := hd7
        obtain ⟨d5, -⟩ := hd7
        obtain ⟨v6, hq2⟩ : ∃ v, (D 5) = v := ⟨_, rfl⟩
        rw [hq2] at d5
        refine dg_sub (E' := [(13, v6)]) ⟨(congrArg some hq2), trivial⟩ ?_
        obtain ⟨A1, c1, rfl, -⟩ := vslice_shape d5
        refine dg_plain rfl (ow_buildSlice (R := (RSlice RSpan)) (xs := [[({ Lo := 0, Hi := x1 } : Span)]]) (cs := #[(.slice A1 [({ Lo := 0, Hi := x1 } : Span)].length c1)]) (e := 93) rfl rfl (by kernel_rfl) rfl rfl ⟨_, _, rfl, d5.cells, rfl⟩ hC16 fun p4 w17 hw8 hb10 hl17 hC17 => ?_)
        have ho32 := ho30.no hb10
        have ho33 := ho31.no hb10
        have hr14 := hr13.no hb10
        exact ⟨hb10, hw8⟩
      · intro w18 D hS8 hd8
        have hl18 := Le.no M1 hS8
        have hC18 := hC4.no hS8
        have ho34 := ho6.no hS8
        have ho35 := ho7.no hS8
        have hr15 := hw2.no hS8
        have hd8 : PEq (.pointer (some ⟨g2, 0, none⟩)) (D 0) w18 ∧ PEq v2 (D 1) w18 ∧ PEq (.int .i64 k1) (D 2) w18 ∧ PEq (.int .i64 x1) (D 3) w18 ∧ PV RSpan M1 ({ Lo := 0, Hi := x1 } : Span) (D 4) w18 ∧ PV (RSlice RSpan) M1 [({ Lo := 0, Hi := x1 } : Span)] (D 5) w18 ∧ PV (RSlice (RSlice RSpan)) M1 [[({ Lo := 0, Hi := x1 } : Span)]] (D 6) w18 ∧ True := hd8
        obtain ⟨-, d7, -, -, -, -, d12, -⟩ := hd8
        obtain ⟨v7, hq3⟩ : ∃ v, (D 6) = v := ⟨_, rfl⟩
        rw [hq3] at d12
        refine lw_sub (E' := [(9, v2), (14, v7), (0, (.pointer (some ⟨g1, 0, none⟩))), (1, (.pointer (some ⟨g2, 0, none⟩))), (2, (.int .i64 k1))]) ⟨(congrArg some d7), (congrArg some hq3), rfl, rfl, rfl, trivial⟩ ?_
        replace hb4 := bind_some hb4
        obtain ⟨z1, hz1, hb4⟩ := hb4
        refine lw_op rfl rfl rfl (ow_append (R := (RSlice RSpan)) rfl rfl rfl rfl Tryd.underlying27 hi93 hz93 hs93 hy93 rfl rfl rfl rfl hr15 d12 hz1 hC18 fun v8 w19 M2 hr16 hb11 hl19 hC19 hM1 hat1 => ?_)
        have ho36 := ho34.go hb11 (fun e => (orow_ne hr15 ho34 (by decide)) e)
        have hm6 := hM1 _ hm4
        have ho37 := ho35.go hb11 (fun e => (orow_ne hr15 ho35 (by decide)) e)
        have hm7 := hM1 _ hm5
        refine lw_op rfl rfl rfl (ow_fieldAddr rfl rfl Tryd.underlying29 rfl (Tryd.sizeOf27 _) ?_)
        obtain ⟨A2, c2, rfl⟩ := hr16.len
        refine lw_op0 rfl rfl (ow_store (X := No) (us := [(.slice A2 z1.length c2)]) (cs' := #[(.slice A2 z1.length c2)]) rfl rfl rfl rfl ho37 (Tryd.sizeOf27 _) rfl rfl rfl rfl hm7 (.inl hg4) rfl hC19 fun w20 ho38 hb12 hl20 hC20 => ?_)
        have ho39 := ho36.go hb12 (fun e => hn1 e)
        have hr17 := hr16.go hb12 (fun k hk e => (orow_ne hr16 ho37 (by decide)) (hk.trans (congrArg some e))) hl20 (fun _ h => h)
        refine lw_nil ?_
        refine ew_blockN ?_
        refine ew_then ?_
        refine cw_region ?_
        refine lw_op rfl rfl rfl (ow_move rfl rfl ?_)
        refine lw_op rfl rfl rfl (ow_add rfl rfl rfl ?_)
        refine lw_op rfl rfl rfl (ow_assign rfl rfl ?_)
        refine lw_nil ?_
        refine ew_nxt ((W (k1 + 1)), z1) hb4 fun a ha => ⟨M2, (.slice A2 z1.length c2), ?_, (((hl4.trans hl18).trans hl19).trans hl20), hC20, hr17, ho39, hm6, ho38, hm7⟩
        exact ha.sub ⟨rfl, rfl, rfl, trivial⟩
    · obtain rfl := hbb1.trans hc1
      refine cw_false rfl ?_
      refine cw_exit ?_
      refine ew_thenX ?_
      refine ew_thenX ?_
      refine ew_blockX ?_
      refine ew_brk (k1, y1) hb4 fun a ha => ⟨M1, v2, ?_, hl4, hC4, hw2, ho6, hm4, ho7, hm5⟩
      exact ha.sub ⟨rfl, rfl, rfl, trivial⟩
  · rintro ⟨k2, y2⟩ a w21 hlr2 ⟨M3, v10, hF2, hl21, hC21, hw9, ho40, hm8, ho41, hm9⟩
    subst hlr2
    refine ew_at (E := [(0, (.pointer (some ⟨g1, 0, none⟩))), (1, (.pointer (some ⟨g2, 0, none⟩))), (2, (.int .i64 k2))]) hF2 ?_
    refine ew_then ?_
    refine cw_seq ?_
    refine cw_region ?_
    obtain ⟨A3, c3, rfl⟩ := hw9.len
    refine lw_op rfl rfl rfl (ow_loadOwnA rfl rfl rfl ho41 (Tryd.isAgg29 _) (Tryd.sizeOf29 _) rfl ?_)
    refine lw_op0 rfl rfl (ow_store (X := No) (us := [(.slice A3 y2.length c3)]) (cs' := #[(.slice A3 y2.length c3)]) rfl rfl rfl rfl ho40 (Tryd.sizeOf29 _) rfl rfl rfl rfl hm8 (.inl hg2) rfl hC21 fun w22 ho42 hb13 hl22 hC22 => ?_)
    have ho43 := ho41.go hb13 (fun e => hn1 e.symm)
    have hr18 := hw9.go hb13 (fun k hk e => (orow_ne hw9 ho40 (by decide)) (hk.trans (congrArg some e))) hl22 (fun _ h => h)
    refine lw_nil ?_
    refine ew_then ?_
    refine cw_ret ?_
    obtain rfl := Option.some.inj h
    exact ew_ret (res1 rfl (.cell rfl (own_loadVarA ho42 (Tryd.isAgg29 _) (Tryd.sizeOf29 _) rfl))) ⟨_, rfl, ⟨M3, _, rfl, hr18, hC22⟩, hC22.bx⟩

theorem w_spec_l2Other {w : World} {M : Nat → Prop} (_hG : ARep (RArr 4 RShape) w M shapes ⟨0, 0, none⟩) (hO : ∀ b, M b → b < w.heap.size) {v0p : Value} {a_a : List Span} (h0 : VRep (RSlice RSpan) w M a_a v0p) {a_top : Int} {r : (List Span)} (h : F.spec_l2Other a_a a_top = some r) :
    Calls Tryd.prog 123 [v0p, (.int .i64 a_top)].toArray w fun e w' => ∃ v, e = .returned v ∧ VRep (RSlice RSpan) w' M r v ∧ BX No w w' := by
  obtain ⟨i140, hi140, hz140, hs140, hy140⟩ := info140
  have hC : Cx No w M w M := Cx.start hO (fun _ e => e.elim)
  clear _hG
  refine walk (N := 49) Tryd.func123 rfl Tryd.ntmps123 rfl ?_
  refine cw_seq ?_
  refine cw_region ?_
  refine lw_op rfl rfl rfl (ow_assign rfl rfl ?_)
  refine lw_nil ?_
  refine ew_then ?_
  refine cw_seq ?_
  refine cw_region ?_
  refine lw_op rfl rfl rfl (ow_buildSlice0 (R := RSpan) (e := 140) rfl (by kernel_rfl) hC fun p1 w1 M1 hr1 hb1 hl1 hC1 hM1 hat1 => ?_)
  refine lw_op rfl rfl rfl (ow_assign rfl rfl ?_)
  refine lw_nil ?_
  refine ew_then ?_
  refine cw_seq ?_
  refine cw_region ?_
  refine lw_op rfl rfl rfl (ow_assign rfl rfl ?_)
  refine lw_nil ?_
  refine ew_then ?_
  refine cw_seq ?_
  refine cw_seq ?_
  refine cw_region ?_
  refine lw_op rfl rfl rfl (ow_assign rfl rfl ?_)
  refine lw_nil ?_
  refine ew_then ?_
  replace h := bind_some h
  obtain ⟨lr1, hlr1, h⟩ := h
  refine cw_for hlr1 (fun s a w' => ∃ (M' : Nat → Prop) (v0c : Value), Fits 49 [(0, v0p), (1, (.int .i64 a_top)), (5, v0c), (6, (.int .i64 s.2.1)), (7, (.int .i64 s.2.2))] a ∧ Le w1 M1 w' M' ∧ Cx No w M w' M' ∧ OwnRow RSpan w.heap.size 140 w' M' s.1 v0c) ?_ ?_ ?_
  · intro a ha
    exact ⟨M1, (.slice (some p1) 0 0), ha.sub ⟨rfl, rfl, rfl, rfl, rfl, trivial⟩, Le.refl _ _, hC1, hr1⟩
  · rintro ⟨y1, k1, k2⟩ a w2 sr1 ⟨M2, v1, hF1, hl2, hC2, hw1⟩ hb2 hR1
    refine cw_at (E := [(0, v0p), (1, (.int .i64 a_top)), (5, v1), (6, (.int .i64 k1)), (7, (.int .i64 k2))]) hF1 ?_
    refine cw_seq ?_
    refine cw_seq ?_
    refine cw_region ?_
    refine lw_op rfl rfl rfl (ow_move rfl rfl ?_)
    refine lw_op rfl rfl rfl (ow_move rfl rfl ?_)
    refine lw_op rfl rfl rfl (ow_len rfl rfl (VRep.mono (hl1.trans hl2) h0) Tryd.underlying93 rfl ?_)
    refine lw_op rfl rfl rfl (ow_lss rfl rfl rfl fun bb1 hbb1 => ?_)
    refine lw_nil ?_
    refine ew_then ?_
    replace hb2 := cond_some hb2
    rcases hb2 with ⟨hc1, hb2⟩ | ⟨hc1, hb2⟩
    · obtain rfl := hbb1.trans hc1
      refine cw_true rfl ?_
      refine cw_skip ?_
      refine ew_then ?_
      refine cw_seq ?_
      refine cw_block ?_
      refine cw_seq ?_
      refine cw_seq ?_
      refine cw_region ?_
      refine lw_op rfl rfl rfl (ow_move rfl rfl ?_)
      refine lw_op rfl rfl rfl (ow_move rfl rfl ?_)
      refine lw_op rfl rfl rfl (ow_move rfl rfl ?_)
      replace hb2 := bind_some hb2
      obtain ⟨x1, hx1, hb2⟩ := hb2
      refine lw_op rfl rfl rfl (ow_indexSlice (R := RSpan) rfl rfl rfl (VRep.mono (hl1.trans hl2) h0) Tryd.underlying93 (Tryd.sizeOf140 _) hx1 fun p2 hp2 => ?_)
      refine lw_op rfl rfl rfl (ow_fieldAddr rfl rfl Tryd.underlying140 rfl (Tryd.sizeOf3 _) ?_)
      refine lw_op rfl rfl rfl (ow_load (R := RInt) rfl rfl (hp2.fld fld_Span_Lo) (Tryd.sizeOf3 _) (Tryd.isAgg3 _) fun v4 hv4 => ?_)
      obtain rfl := vint_eq hv4
      refine lw_op rfl rfl rfl (ow_lss rfl rfl rfl fun bb2 hbb2 => ?_)
      refine lw_nil ?_
      refine ew_then ?_
      replace hb2 := cond_some hb2
      rcases hb2 with ⟨hc2, hb2⟩ | ⟨hc2, hb2⟩
      · obtain rfl := hbb2.trans hc2
        refine cw_true rfl ?_
        refine cw_region ?_
        refine lw_op rfl rfl rfl (ow_move rfl rfl ?_)
        refine lw_op rfl rfl rfl (ow_move rfl rfl ?_)
        refine lw_op rfl rfl rfl (ow_move rfl rfl ?_)
        refine lw_op rfl rfl rfl (ow_move rfl rfl ?_)
        refine lw_op rfl rfl rfl (ow_indexSlice (R := RSpan) rfl rfl rfl (VRep.mono (hl1.trans hl2) h0) Tryd.underlying93 (Tryd.sizeOf140 _) hx1 fun p3 hp3 => ?_)
        refine lw_op rfl rfl rfl (ow_fieldAddr rfl rfl Tryd.underlying140 rfl (Tryd.sizeOf3 _) ?_)
        refine lw_op rfl rfl rfl (ow_load (R := RInt) rfl rfl (hp3.fld fld_Span_Lo) (Tryd.sizeOf3 _) (Tryd.isAgg3 _) fun v5 hv5 => ?_)
        obtain rfl := vint_eq hv5
        refine lw_op rfl rfl rfl (ow_sub rfl rfl rfl ?_)
        refine lw_op rfl rfl rfl (ow_build (v := .agg #[(.int .i64 k1), (.int .i64 (W (x1.Lo - 1)))]) rfl rfl (by kernel_rfl) ?_)
        have hw2 : VRep RSpan w2 M2 ({ Lo := k1, Hi := (W (x1.Lo - 1)) } : Span) (.agg #[(.int .i64 k1), (.int .i64 (W (x1.Lo - 1)))]) := shut_Span
        refine lw_op rfl rfl rfl (ow_buildSlice (R := RSpan) (xs := [({ Lo := k1, Hi := (W (x1.Lo - 1)) } : Span)]) (cs := #[(.int .i64 k1), (.int .i64 (W (x1.Lo - 1)))]) (e := 140) rfl rfl (by kernel_rfl) rfl rfl ⟨_, _, rfl, hw2.cells, rfl⟩ hC2 fun p4 w3 hw3 hb3 hl3 hC3 => ?_)
        have hr2 := hw1.no hb3
        replace hb2 := bind_some hb2
        obtain ⟨z1, hz1, hb2⟩ := hb2
        refine lw_op rfl rfl rfl (ow_append (R := RSpan) rfl rfl rfl rfl Tryd.underlying93 hi140 hz140 hs140 hy140 rfl rfl rfl rfl hr2 hw3 hz1 hC3 fun v6 w4 M3 hr3 hb4 hl4 hC4 hM2 hat2 => ?_)
        refine lw_op rfl rfl rfl (ow_assign rfl rfl ?_)
        refine lw_nil ?_
        refine ew_then ?_
        refine cw_region ?_
        refine lw_op rfl rfl rfl (ow_move rfl rfl ?_)
        refine lw_op rfl rfl rfl (ow_move rfl rfl ?_)
        refine lw_op rfl rfl rfl (ow_indexSlice (R := RSpan) rfl rfl rfl (VRep.mono (((hl1.trans hl2).trans hl3).trans hl4) h0) Tryd.underlying93 (Tryd.sizeOf140 _) hx1 fun p5 hp5 => ?_)
        refine lw_op rfl rfl rfl (ow_fieldAddr rfl rfl Tryd.underlying140 rfl (Tryd.sizeOf3 _) ?_)
        refine lw_op rfl rfl rfl (ow_load (R := RInt) rfl rfl (hp5.fld fld_Span_Hi) (Tryd.sizeOf3 _) (Tryd.isAgg3 _) fun v7 hv7 => ?_)
        obtain rfl := vint_eq hv7
        refine lw_op rfl rfl rfl (ow_add rfl rfl rfl ?_)
        refine lw_op rfl rfl rfl (ow_assign rfl rfl ?_)
        refine lw_nil ?_
        refine ew_blockN ?_
        refine ew_then ?_
        refine cw_region ?_
        refine lw_op rfl rfl rfl (ow_move rfl rfl ?_)
        refine lw_op rfl rfl rfl (ow_add rfl rfl rfl ?_)
        refine lw_op rfl rfl rfl (ow_assign rfl rfl ?_)
        refine lw_nil ?_
        refine ew_nxt (z1, (W (x1.Hi + 1)), (W (k2 + 1))) hb2 fun a ha => ⟨M3, v6, ?_, ((hl2.trans hl3).trans hl4), hC4, hr3⟩
        exact ha.sub ⟨rfl, rfl, rfl, rfl, rfl, trivial⟩
      · obtain rfl := hbb2.trans hc2
        refine cw_false rfl ?_
        refine cw_skip ?_
        refine ew_then ?_
        refine cw_region ?_
        refine lw_op rfl rfl rfl (ow_move rfl rfl ?_)
        refine lw_op rfl rfl rfl (ow_move rfl rfl ?_)
        refine lw_op rfl rfl rfl (ow_indexSlice (R := RSpan) rfl rfl rfl (VRep.mono (hl1.trans hl2) h0) Tryd.underlying93 (Tryd.sizeOf140 _) hx1 fun p6 hp6 => ?_)
        refine lw_op rfl rfl rfl (ow_fieldAddr rfl rfl Tryd.underlying140 rfl (Tryd.sizeOf3 _) ?_)
        refine lw_op rfl rfl rfl (ow_load (R := RInt) rfl rfl (hp6.fld fld_Span_Hi) (Tryd.sizeOf3 _) (Tryd.isAgg3 _) fun v8 hv8 => ?_)
        obtain rfl := vint_eq hv8
        refine lw_op rfl rfl rfl (ow_add rfl rfl rfl ?_)
        refine lw_op rfl rfl rfl (ow_assign rfl rfl ?_)
        refine lw_nil ?_
        refine ew_blockN ?_
        refine ew_then ?_
        refine cw_region ?_
        refine lw_op rfl rfl rfl (ow_move rfl rfl ?_)
        refine lw_op rfl rfl rfl (ow_add rfl rfl rfl ?_)
        refine lw_op rfl rfl rfl (ow_assign rfl rfl ?_)
        refine lw_nil ?_
        refine ew_nxt (y1, (W (x1.Hi + 1)), (W (k2 + 1))) hb2 fun a ha => ⟨M2, v1, ?_, hl2, hC2, hw1⟩
        exact ha.sub ⟨rfl, rfl, rfl, rfl, rfl, trivial⟩
    · obtain rfl := hbb1.trans hc1
      refine cw_false rfl ?_
      refine cw_exit ?_
      refine ew_thenX ?_
      refine ew_thenX ?_
      refine ew_blockX ?_
      refine ew_brk (y1, k1, k2) hb2 fun a ha => ⟨M2, v1, ?_, hl2, hC2, hw1⟩
      exact ha.sub ⟨rfl, rfl, rfl, rfl, rfl, trivial⟩
  · rintro ⟨y2, k3, k4⟩ a w5 hlr2 ⟨M4, v9, hF2, hl5, hC5, hw4⟩
    subst hlr2
    refine ew_at (E := [(0, v0p), (1, (.int .i64 a_top)), (5, v9), (6, (.int .i64 k3)), (7, (.int .i64 k4))]) hF2 ?_
    refine ew_then ?_
    refine cw_seq ?_
    refine cw_seq ?_
    refine cw_region ?_
    refine lw_op rfl rfl rfl (ow_move rfl rfl ?_)
    refine lw_op rfl rfl rfl (ow_move rfl rfl ?_)
    refine lw_op rfl rfl rfl (ow_leq rfl rfl rfl fun bb3 hbb3 => ?_)
    refine lw_nil ?_
    refine ew_then ?_
    replace h := cond_some h
    rcases h with ⟨hc3, h⟩ | ⟨hc3, h⟩
    · obtain rfl := hbb3.trans hc3
      refine cw_true rfl ?_
      refine cw_region ?_
      refine lw_op rfl rfl rfl (ow_move rfl rfl ?_)
      refine lw_op rfl rfl rfl (ow_move rfl rfl ?_)
      refine lw_op rfl rfl rfl (ow_move rfl rfl ?_)
      refine lw_op rfl rfl rfl (ow_build (v := .agg #[(.int .i64 k3), (.int .i64 a_top)]) rfl rfl (by kernel_rfl) ?_)
      have hw5 : VRep RSpan w5 M4 ({ Lo := k3, Hi := a_top } : Span) (.agg #[(.int .i64 k3), (.int .i64 a_top)]) := shut_Span
      refine lw_op rfl rfl rfl (ow_buildSlice (R := RSpan) (xs := [({ Lo := k3, Hi := a_top } : Span)]) (cs := #[(.int .i64 k3), (.int .i64 a_top)]) (e := 140) rfl rfl (by kernel_rfl) rfl rfl ⟨_, _, rfl, hw5.cells, rfl⟩ hC5 fun p7 w6 hw6 hb5 hl6 hC6 => ?_)
      have hr4 := hw4.no hb5
      replace h := bind_some h
      obtain ⟨z2, hz2, h⟩ := h
      refine lw_op rfl rfl rfl (ow_append (R := RSpan) rfl rfl rfl rfl Tryd.underlying93 hi140 hz140 hs140 hy140 rfl rfl rfl rfl hr4 hw6 hz2 hC6 fun v12 w7 M5 hr5 hb6 hl7 hC7 hM3 hat3 => ?_)
      refine lw_op rfl rfl rfl (ow_assign rfl rfl ?_)
      refine lw_nil ?_
      refine ew_then ?_
      refine cw_seq ?_
      refine cw_region ?_
      refine lw_op rfl rfl rfl (ow_move rfl rfl ?_)
      refine lw_op rfl rfl rfl (ow_assign rfl rfl ?_)
      refine lw_nil ?_
      refine ew_then ?_
      refine cw_ret ?_
      obtain rfl := Option.some.inj h
      exact ew_ret (res1 rfl (.tmp rfl)) ⟨_, rfl, (hr5.freezeBack hC7 hO), hC7.bx⟩
    · obtain rfl := hbb3.trans hc3
      refine cw_false rfl ?_
      refine cw_skip ?_
      refine ew_then ?_
      refine cw_seq ?_
      refine cw_region ?_
      refine lw_op rfl rfl rfl (ow_move rfl rfl ?_)
      refine lw_op rfl rfl rfl (ow_assign rfl rfl ?_)
      refine lw_nil ?_
      refine ew_then ?_
      refine cw_ret ?_
      obtain rfl := Option.some.inj h
      exact ew_ret (res1 rfl (.tmp rfl)) ⟨_, rfl, (hw4.freezeBack hC5 hO), hC5.bx⟩

theorem w_spec_TestSpans {w : World} {M : Nat → Prop} (hG : ARep (RArr 4 RShape) w M shapes ⟨0, 0, none⟩) (hO : ∀ b, M b → b < w.heap.size) {v0p : Value} {a_t : Test} (h0 : VRep RTest w M a_t v0p) {r : (List Span)} (h : F.spec_TestSpans a_t = some r) :
    Calls Tryd.prog 153 [v0p].toArray w fun e w' => ∃ v, e = .returned v ∧ VRep (RSlice RSpan) w' M r v ∧ BX No w w' := by
  have hC : Cx No w M w M := Cx.start hO (fun _ e => e.elim)
  refine walk (N := 22) Tryd.func153 rfl Tryd.ntmps153 rfl ?_
  refine cw_seq ?_
  refine cw_region ?_
  refine lw_op rfl rfl rfl (ow_box (R := RTest) rfl rfl h0 hC fun p1 w1 hp1 hb1 hl1 hC1 => ?_)
  refine lw_op rfl rfl rfl (ow_assign rfl rfl ?_)
  refine lw_nil ?_
  refine ew_then ?_
  refine cw_seq ?_
  refine cw_seq ?_
  refine cw_region ?_
  refine lw_op rfl rfl rfl (ow_load (R := RTest) rfl rfl hp1 (Tryd.sizeOf186 _) (Tryd.isAgg186 _) fun v1 hv1 => ?_)
  replace h := bind_some h
  obtain ⟨x1, hx1, h⟩ := h
  refine lw_op rfl rfl rfl (ow_call rfl rfl Tryd.call138 (w_spec_TestValid (hG.mono hl1) hC1.old hv1 hx1) fun v2 w2 hv2 => ?_)
  obtain ⟨hv2, hb2⟩ := hv2
  have hl2 := Le.no M hb2
  have hC2 := hC1.no hb2
  obtain rfl := vbool_eq hv2
  refine lw_op rfl rfl rfl (ow_not rfl rfl ?_)
  refine lw_nil ?_
  refine ew_then ?_
  replace h := cond_some h
  rcases h with ⟨hc1, h⟩ | ⟨hc1, h⟩
  · subst hc1
    refine cw_false rfl ?_
    refine cw_skip ?_
    refine ew_then ?_
    refine cw_seq ?_
    refine cw_region ?_
    refine lw_op rfl rfl rfl (ow_fieldAddr rfl rfl Tryd.underlying186 rfl (Tryd.sizeOf3 _) ?_)
    refine lw_op rfl rfl rfl (ow_load (R := RInt) rfl rfl (ARep.mono hl2 (hp1.fld fld_Test_Lo)) (Tryd.sizeOf3 _) (Tryd.isAgg3 _) fun v3 hv3 => ?_)
    obtain rfl := vint_eq hv3
    refine lw_op rfl rfl rfl (ow_fieldAddr rfl rfl Tryd.underlying186 rfl (Tryd.sizeOf3 _) ?_)
    refine lw_op rfl rfl rfl (ow_load (R := RInt) rfl rfl (ARep.mono hl2 (hp1.fld fld_Test_Hi)) (Tryd.sizeOf3 _) (Tryd.isAgg3 _) fun v4 hv4 => ?_)
    obtain rfl := vint_eq hv4
    refine lw_op rfl rfl rfl (ow_build (v := .agg #[(.int .i64 a_t.Lo), (.int .i64 a_t.Hi)]) rfl rfl (by kernel_rfl) ?_)
    have hw1 : VRep RSpan w2 M ({ Lo := a_t.Lo, Hi := a_t.Hi } : Span) (.agg #[(.int .i64 a_t.Lo), (.int .i64 a_t.Hi)]) := shut_Span
    refine lw_op rfl rfl rfl (ow_buildSlice (R := RSpan) (xs := [({ Lo := a_t.Lo, Hi := a_t.Hi } : Span)]) (cs := #[(.int .i64 a_t.Lo), (.int .i64 a_t.Hi)]) (e := 140) rfl rfl (by kernel_rfl) rfl rfl ⟨_, _, rfl, hw1.cells, rfl⟩ hC2 fun p2 w3 hw2 hb3 hl3 hC3 => ?_)
    refine lw_op rfl rfl rfl (ow_assign rfl rfl ?_)
    refine lw_nil ?_
    refine ew_then ?_
    refine cw_seq ?_
    refine cw_seq ?_
    refine cw_region ?_
    refine lw_op rfl rfl rfl (ow_fieldAddr rfl rfl Tryd.underlying186 rfl (Tryd.sizeOf4 _) ?_)
    refine lw_op rfl rfl rfl (ow_load (R := RBool) rfl rfl (ARep.mono (hl2.trans hl3) (hp1.fld fld_Test_Not)) (Tryd.sizeOf4 _) (Tryd.isAgg4 _) fun v5 hv5 => ?_)
    obtain ⟨bb1, hbb1, rfl⟩ := vbool_ex hv5
    refine lw_nil ?_
    refine ew_then ?_
    replace h := cond_some h
    rcases h with ⟨hc2, h⟩ | ⟨hc2, h⟩
    · obtain rfl := hbb1.trans hc2
      refine cw_true rfl ?_
      refine cw_seq ?_
      refine cw_region ?_
      refine lw_op rfl rfl rfl (ow_move rfl rfl ?_)
      refine lw_op rfl rfl rfl (ow_fieldAddr rfl rfl Tryd.underlying186 rfl (Tryd.sizeOf3 _) ?_)
      refine lw_op rfl rfl rfl (ow_load (R := RInt) rfl rfl (ARep.mono (hl2.trans hl3) (hp1.fld fld_Test_Field)) (Tryd.sizeOf3 _) (Tryd.isAgg3 _) fun v6 hv6 => ?_)
      obtain rfl := vint_eq hv6
      replace h := bind_some h
      obtain ⟨x2, hx2, h⟩ := h
      refine lw_op rfl rfl rfl (ow_call rfl rfl Tryd.call109 (w_spec_FieldTop (hG.mono ((hl1.trans hl2).trans hl3)) hC3.old hx2) fun v7 w4 hv7 => ?_)
      obtain ⟨hv7, hb4⟩ := hv7
      have hl4 := Le.no M hb4
      have hC4 := hC3.no hb4
      obtain rfl := vint_eq hv7
      replace h := bind_some h
      obtain ⟨x3, hx3, h⟩ := h
      refine lw_op rfl rfl rfl (ow_call rfl rfl Tryd.call123 (w_spec_l2Other (hG.mono (((hl1.trans hl2).trans hl3).trans hl4)) hC4.old (VRep.mono hl4 hw2) hx3) fun v8 w5 hv8 => ?_)
      obtain ⟨hv8, hb5⟩ := hv8
      have hl5 := Le.no M hb5
      have hC5 := hC4.no hb5
      refine lw_op rfl rfl rfl (ow_assign rfl rfl ?_)
      refine lw_nil ?_
      refine ew_then ?_
      refine cw_ret ?_
      refine ew_thenR ?_
      obtain rfl := Option.some.inj h
      exact ew_ret (res1 rfl (.tmp rfl)) ⟨_, rfl, (VRep.mono hC5.back hv8), hC5.bx⟩
    · obtain rfl := hbb1.trans hc2
      refine cw_false rfl ?_
      refine cw_skip ?_
      refine ew_then ?_
      refine cw_seq ?_
      refine cw_region ?_
      refine lw_op rfl rfl rfl (ow_move rfl rfl ?_)
      refine lw_op rfl rfl rfl (ow_assign rfl rfl ?_)
      refine lw_nil ?_
      refine ew_then ?_
      refine cw_ret ?_
      obtain rfl := Option.some.inj h
      exact ew_ret (res1 rfl (.tmp rfl)) ⟨_, rfl, (VRep.mono hC3.back hw2), hC3.bx⟩
  · subst hc1
    refine cw_true rfl ?_
    refine cw_seq ?_
    refine cw_region ?_
    refine lw_op rfl rfl rfl (ow_buildSlice0I (R := RSpan) (e := 140) rfl (by kernel_rfl) hC2 fun p3 w6 hw3 hb6 hl6 hC6 => ?_)
    refine lw_op rfl rfl rfl (ow_assign rfl rfl ?_)
    refine lw_nil ?_
    refine ew_then ?_
    refine cw_ret ?_
    refine ew_thenR ?_
    obtain rfl := Option.some.inj h
    exact ew_ret (res1 rfl (.tmp rfl)) ⟨_, rfl, (VRep.mono hC6.back hw3), hC6.bx⟩

theorem w_spec_TestsBox {w : World} {M : Nat → Prop} (hG : ARep (RArr 4 RShape) w M shapes ⟨0, 0, none⟩) (hO : ∀ b, M b → b < w.heap.size) {v0p : Value} {a_list : List Test} (h0 : VRep (RSlice RTest) w M a_list v0p) {r : Box} (h : F.spec_TestsBox a_list = some r) :
    Calls Tryd.prog 142 [v0p].toArray w fun e w' => ∃ v, e = .returned v ∧ VRep RBox w' M r v ∧ BX No w w' := by
  have hC : Cx No w M w M := Cx.start hO (fun _ e => e.elim)
  refine walk (N := 38) Tryd.func142 rfl Tryd.ntmps142 rfl ?_
  refine cw_seq ?_
  refine cw_region ?_
  refine lw_op rfl rfl rfl (ow_alloc rfl (Tryd.zeroValue29 _) hC fun g1 w1 hg1 hg2 ho1 hb1 hl1 hC1 => ?_)
  have hm1 : (Add g1 M) g1 := .inl rfl
  refine lw_nil ?_
  refine ew_then ?_
  refine cw_seq ?_
  refine cw_seq ?_
  refine cw_region ?_
  refine lw_op rfl rfl rfl (ow_move rfl rfl ?_)
  replace h := bind_some h
  obtain ⟨x1, hx1, h⟩ := h
  refine lw_op rfl rfl rfl (ow_call rfl rfl Tryd.call102 (w_spec_TestsValid (hG.mono hl1) hC1.old (VRep.mono hl1 h0) hx1) fun v1 w2 hv1 => ?_)
  obtain ⟨hv1, hb2⟩ := hv1
  have hl2 := Le.no (Add g1 M) hb2
  have hC2 := hC1.no hb2
  have ho2 := ho1.no hb2
  obtain rfl := vbool_eq hv1
  refine lw_op rfl rfl rfl (ow_not rfl rfl ?_)
  refine lw_nil ?_
  refine ew_then ?_
  replace h := cond_some h
  rcases h with ⟨hc1, h⟩ | ⟨hc1, h⟩
  · subst hc1
    refine cw_false rfl ?_
    refine cw_skip ?_
    refine ew_then ?_
    refine cw_seq ?_
    refine cw_region ?_
    replace h := bind_some h
    obtain ⟨x2, hx2, h⟩ := h
    refine lw_op rfl rfl rfl (ow_call rfl rfl Tryd.call152 (wo_spec_BoxAll (hG.mono (hl1.trans hl2)) hC2.old hx2) fun v2 w3 hv2 => ?_)
    obtain ⟨⟨M1, v3, rfl, hr1, hk1⟩, hb3⟩ := hv2
    replace hr1 := hr1.base hC2.bx.size
    have hl3 := hk1.le
    have hC3 := hC2.trans hk1
    have ho3 := ho2.no hb3
    have hm2 := hk1.sup _ hm1
    obtain ⟨A1, c1, rfl⟩ := hr1.len
    refine lw_op rfl rfl rfl (ow_alloc rfl (Tryd.zeroValue29 _) hC3 fun g2 w4 hg3 hg4 ho4 hb4 hl4 hC4 => ?_)
    have hn1 := Nat.ne_of_lt (Nat.lt_of_lt_of_le ho3.lt hg3)
    have ho5 := ho3.no hb4
    have hm3 : (Add g2 M1) g1 := .inr hm2
    have hr2 := hr1.add hb4 hg3
    have hm4 : (Add g2 M1) g2 := .inl rfl
    refine lw_op0 rfl rfl (ow_store (X := No) (us := [(.slice A1 x2.Sides.length c1)]) (cs' := #[(.slice A1 x2.Sides.length c1)]) rfl rfl rfl rfl ho4 (Tryd.sizeOf29 _) rfl rfl rfl rfl hm4 (.inl hg4) rfl hC4 fun w5 ho6 hb5 hl5 hC5 => ?_)
    have ho7 := ho5.go hb5 (fun e => hn1 e)
    have hr3 := hr2.go hb5 (fun k hk e => (orow_ne hr2 ho4 (by decide)) (hk.trans (congrArg some e))) hl5 (fun _ h => h)
    refine lw_nil ?_
    refine ew_then ?_
    refine cw_seq ?_
    refine cw_seq ?_
    refine cw_region ?_
    refine lw_op rfl rfl rfl (ow_assign rfl rfl ?_)
    refine lw_nil ?_
    refine ew_then ?_
    replace h := bind_some h
    obtain ⟨lr1, hlr1, h⟩ := h
    refine cw_for hlr1 (fun s a w' => ∃ (M' : Nat → Prop), Fits 38 [(0, v0p), (2, (.pointer (some ⟨g1, 0, none⟩))), (3, (.pointer (some ⟨g2, 0, none⟩))), (4, (.int .i64 s.1))] a ∧ Le w5 (Add g2 M1) w' M' ∧ Cx No w M w' M' ∧ OwnRow (RSlice RSpan) w.heap.size 93 w' M' s.2 (.slice A1 x2.Sides.length c1) ∧ Own w' g1 29 #[(.slice none 0 0)] ∧ M' g1 ∧ Own w' g2 29 #[(.slice A1 x2.Sides.length c1)] ∧ M' g2) ?_ ?_ ?_
    · intro a ha
      exact ⟨(Add g2 M1), ha.sub ⟨rfl, rfl, rfl, rfl, trivial⟩, Le.refl _ _, hC5, hr3, ho7, hm3, ho6, hm4⟩
    · rintro ⟨k1, y1⟩ a w6 sr1 ⟨M2, hF1, hl6, hC6, hw1, ho8, hm5, ho9, hm6⟩ hb6 hR1
      refine cw_at (E := [(0, v0p), (2, (.pointer (some ⟨g1, 0, none⟩))), (3, (.pointer (some ⟨g2, 0, none⟩))), (4, (.int .i64 k1))]) hF1 ?_
      refine cw_seq ?_
      refine cw_seq ?_
      refine cw_region ?_
      refine lw_op rfl rfl rfl (ow_move rfl rfl ?_)
      refine lw_op rfl rfl rfl (ow_move rfl rfl ?_)
      refine lw_op rfl rfl rfl (ow_len rfl rfl (VRep.mono (((((hl1.trans hl2).trans hl3).trans hl4).trans hl5).trans hl6) h0) Tryd.underlying74 rfl ?_)
      refine lw_op rfl rfl rfl (ow_lss rfl rfl rfl fun bb1 hbb1 => ?_)
      refine lw_nil ?_
      refine ew_then ?_
      replace hb6 := cond_some hb6
      rcases hb6 with ⟨hc2, hb6⟩ | ⟨hc2, hb6⟩
      · obtain rfl := hbb1.trans hc2
        refine cw_true rfl ?_
        refine cw_skip ?_
        refine ew_then ?_
        refine cw_seq ?_
        refine cw_block ?_
        refine cw_seq ?_
        refine cw_region ?_
        refine lw_op rfl rfl rfl (ow_move rfl rfl ?_)
        refine lw_op rfl rfl rfl (ow_move rfl rfl ?_)
        replace hb6 := bind_some hb6
        obtain ⟨x3, hx3, hb6⟩ := hb6
        refine lw_op rfl rfl rfl (ow_indexSlice (R := RTest) rfl rfl rfl (VRep.mono (((((hl1.trans hl2).trans hl3).trans hl4).trans hl5).trans hl6) h0) Tryd.underlying74 (Tryd.sizeOf186 _) hx3 fun p1 hp1 => ?_)
        refine lw_op rfl rfl rfl (ow_fieldAddr rfl rfl Tryd.underlying186 rfl (Tryd.sizeOf3 _) ?_)
        refine lw_op rfl rfl rfl (ow_load (R := RInt) rfl rfl (hp1.fld fld_Test_Field) (Tryd.sizeOf3 _) (Tryd.isAgg3 _) fun v6 hv6 => ?_)
        obtain rfl := vint_eq hv6
        refine lw_op rfl rfl rfl (ow_assign rfl rfl ?_)
        refine lw_nil ?_
        refine ew_then ?_
        replace hb6 := bind_some hb6
        obtain ⟨x4, hx4, hb6⟩ := hb6
        replace hb6 := bind_some hb6
        obtain ⟨x5, hx5, hb6⟩ := hb6
        replace hb6 := bind_some hb6
        obtain ⟨x6, hx6, hb6⟩ := hb6
        refine cw_sub (E' := [(0, v0p), (2, (.pointer (some ⟨g1, 0, none⟩))), (3, (.pointer (some ⟨g2, 0, none⟩))), (4, (.int .i64 k1)), (5, (.int .i64 x3.Field))]) ⟨rfl, rfl, rfl, rfl, rfl, trivial⟩ ?_
        refine cw_drawQ 14 [PEq (.pointer (some ⟨g2, 0, none⟩)), PEq (.slice A1 x2.Sides.length c1), PEq (.int .i64 x3.Field), PEq (.pointer (some ⟨g2, 0, none⟩)), PEq (.slice A1 x2.Sides.length c1), PEq (.int .i64 x3.Field), PEq (.pointer (some ⟨blk (.slice A1 x2.Sides.length c1), (x3.Field : Int).toNat * (RSlice RSpan).size + 0, none⟩)), PV (RSlice RSpan) M2 x4, PV (RSlice RTest) M2 a_list, PEq (.int .i64 k1), PA RTest M2 x3, PV RTest M2 x3, PV (RSlice RSpan) M2 x5, PV (RSlice RSpan) M2 x6] (by kernel_rfl) rfl (by kernel_rfl) ⟨PEq.mono _, PEq.mono _, PEq.mono _, PEq.mono _, PEq.mono _, PEq.mono _, PEq.mono _, PV.mono _ _ _, PV.mono _ _ _, PEq.mono _, PA.mono _ _ _, PV.mono _ _ _, PV.mono _ _ _, PV.mono _ _ _, trivial⟩ ⟨?_, ?_, ?_, ?_, ?_, ?_, ?_, ?_, ?_, ?_, ?_, ?_, ?_, ?_, trivial⟩ ?_
        · intro w9 D hS1 hd1
          have hl9 := Le.no M2 hS1
          have hC9 := hC6.no hS1
          have ho14 := ho8.no hS1
          have ho15 := ho9.no hS1
          have hr6 := hw1.no hS1
          refine dg_sub (E' := [(3, (.pointer (some ⟨g2, 0, none⟩)))]) ⟨rfl, trivial⟩ ?_
          refine dg_plain rfl (ow_fieldAddr rfl rfl Tryd.underlying29 rfl (Tryd.sizeOf27 _) ?_)
          exact ⟨BX.refl _ _, rfl⟩
        · intro w10 D hS2 hd2
          have hl10 := Le.no M2 hS2
          have hC10 := hC6.no hS2
          have ho16 := ho8.no hS2
          have ho17 := ho9.no hS2
          have hr7 := hw1.no hS2
          have hd2 : PEq (.pointer (some ⟨g2, 0, none⟩)) (D 0) w10 ∧ True := hd2
          obtain ⟨d1, -⟩ := hd2
          refine dg_sub (E' := [(22, (.pointer (some ⟨g2, 0, none⟩)))]) ⟨(congrArg some d1), trivial⟩ ?_
          refine dg_plain rfl (ow_loadOwn1 rfl rfl rfl ho17 (Tryd.isAgg27 _) rfl ?_)
          exact ⟨BX.refl _ _, rfl⟩
        · intro w11 D hS3 hd3
          have hl11 := Le.no M2 hS3
          have hC11 := hC6.no hS3
          have ho18 := ho8.no hS3
          have ho19 := ho9.no hS3
          have hr8 := hw1.no hS3
          refine dg_sub (E' := [(5, (.int .i64 x3.Field))]) ⟨rfl, trivial⟩ ?_
          refine dg_plain rfl (ow_move rfl rfl ?_)
          exact ⟨BX.refl _ _, rfl⟩
        · intro w12 D hS4 hd4
          have hl12 := Le.no M2 hS4
          have hC12 := hC6.no hS4
          have ho20 := ho8.no hS4
          have ho21 := ho9.no hS4
          have hr9 := hw1.no hS4
          refine dg_sub (E' := [(3, (.pointer (some ⟨g2, 0, none⟩)))]) ⟨rfl, trivial⟩ ?_
          refine dg_plain rfl (ow_fieldAddr rfl rfl Tryd.underlying29 rfl (Tryd.sizeOf27 _) ?_)
          exact ⟨BX.refl _ _, rfl⟩
        · intro w13 D hS5 hd5
          have hl13 := Le.no M2 hS5
          have hC13 := hC6.no hS5
          have ho22 := ho8.no hS5
          have ho23 := ho9.no hS5
          have hr10 := hw1.no hS5
          have hd5 : PEq (.pointer (some ⟨g2, 0, none⟩)) (D 3) w13 ∧ True := hd5
          obtain ⟨d2, -⟩ := hd5
          refine dg_sub (E' := [(25, (.pointer (some ⟨g2, 0, none⟩)))]) ⟨(congrArg some d2), trivial⟩ ?_
          refine dg_plain rfl (ow_loadOwn1 rfl rfl rfl ho23 (Tryd.isAgg27 _) rfl ?_)
          exact ⟨BX.refl _ _, rfl⟩
        · intro w14 D hS6 hd6
          have hl14 := Le.no M2 hS6
          have hC14 := hC6.no hS6
          have ho24 := ho8.no hS6
          have ho25 := ho9.no hS6
          have hr11 := hw1.no hS6
          refine dg_sub (E' := [(5, (.int .i64 x3.Field))]) ⟨rfl, trivial⟩ ?_
          refine dg_plain rfl (ow_move rfl rfl ?_)
          exact ⟨BX.refl _ _, rfl⟩
        · intro w15 D hS7 hd7
          have hl15 := Le.no M2 hS7
          have hC15 := hC6.no hS7
          have ho26 := ho8.no hS7
          have ho27 := ho9.no hS7
          have hr12 := hw1.no hS7
          have hd7 : PEq (.slice A1 x2.Sides.length c1) (D 4) w15 ∧ PEq (.int .i64 x3.Field) (D 5) w15 ∧ True := hd7
          obtain ⟨d3, d4, -⟩ := hd7
          refine dg_sub (E' := [(26, (.slice A1 x2.Sides.length c1)), (27, (.int .i64 x3.Field))]) ⟨(congrArg some d3), (congrArg some d4), trivial⟩ ?_
          refine dg_plain rfl (ow_indexRow (R := (RSlice RSpan)) rfl rfl rfl hr12 Tryd.underlying27 (Tryd.sizeOf93 _) hx4 ?_)
          exact ⟨BX.refl _ _, rfl⟩
        · intro w16 D hS8 hd8
          have hl16 := Le.no M2 hS8
          have hC16 := hC6.no hS8
          have ho28 := ho8.no hS8
          have ho29 := ho9.no hS8
          have hr13 := hw1.no hS8
          have hd8 : PEq (.pointer (some ⟨blk (.slice A1 x2.Sides.length c1), (x3.Field : Int).toNat * (RSlice RSpan).size + 0, none⟩)) (D 6) w16 ∧ True := hd8
          obtain ⟨d5, -⟩ := hd8
          refine dg_sub (E' := [(28, (.pointer (some ⟨blk (.slice A1 x2.Sides.length c1), (x3.Field : Int).toNat * (RSlice RSpan).size + 0, none⟩)))]) ⟨(congrArg some d5), trivial⟩ ?_
          refine dg_plain rfl (ow_loadElRow (R := (RSlice RSpan)) (S := (RSlice RSpan)) rfl rfl rfl hr13 (orow_blk hr13 hx4) hx4 (Fld.whole (RSlice RSpan)) (Tryd.sizeOf93 _) (Tryd.isAgg93 _) fun v11 hv11 => ?_)
          exact ⟨BX.refl _ _, hv11⟩
        · intro w17 D hS9 hd9
          have hl17 := Le.no M2 hS9
          have hC17 := hC6.no hS9
          have ho30 := ho8.no hS9
          have ho31 := ho9.no hS9
          have hr14 := hw1.no hS9
          refine dg_sub (E' := [(0, v0p)]) ⟨rfl, trivial⟩ ?_
          refine dg_plain rfl (ow_move rfl rfl ?_)
          exact ⟨BX.refl _ _, (VRep.mono ((((((hl1.trans hl2).trans hl3).trans hl4).trans hl5).trans hl6).trans hl17) h0)⟩
        · intro w18 D hS10 hd10
          have hl18 := Le.no M2 hS10
          have hC18 := hC6.no hS10
          have ho32 := ho8.no hS10
          have ho33 := ho9.no hS10
          have hr15 := hw1.no hS10
          refine dg_sub (E' := [(4, (.int .i64 k1))]) ⟨rfl, trivial⟩ ?_
          refine dg_plain rfl (ow_move rfl rfl ?_)
          exact ⟨BX.refl _ _, rfl⟩
        · intro w19 D hS11 hd11
          have hl19 := Le.no M2 hS11
          have hC19 := hC6.no hS11
          have ho34 := ho8.no hS11
          have ho35 := ho9.no hS11
          have hr16 := hw1.no hS11
          have hd11 : PV (RSlice RTest) M2 a_list (D 8) w19 ∧ PEq (.int .i64 k1) (D 9) w19 ∧ True := hd11
          obtain ⟨d6, d7, -⟩ := hd11
          obtain ⟨v12, hq1⟩ : ∃ v, (D 8) = v := ⟨_, rfl⟩
          rw [hq1] at d6
          refine dg_sub (E' := [(30, v12), (31, (.int .i64 k1))]) ⟨(congrArg some hq1), (congrArg some d7), trivial⟩ ?_
          refine dg_plain rfl (ow_indexSlice (R := RTest) rfl rfl rfl d6 Tryd.underlying74 (Tryd.sizeOf186 _) hx3 fun p3 hp3 => ?_)
          exact ⟨BX.refl _ _, ⟨_, rfl, hp3⟩⟩
        · intro w20 D hS12 hd12
          have hl20 := Le.no M2 hS12
          have hC20 := hC6.no hS12
          have ho36 := ho8.no hS12
          have ho37 := ho9.no hS12
          have hr17 := hw1.no hS12
          have hd12 : PA RTest M2 x3 (D 10) w20 ∧ True := hd12
          obtain ⟨d8, -⟩ := hd12
          obtain ⟨p4, e1, ha1⟩ := d8
          refine dg_sub (E' := [(32, (.pointer (some p4)))]) ⟨(congrArg some e1), trivial⟩ ?_
          refine dg_plain rfl (ow_load (R := RTest) rfl rfl ha1 (Tryd.sizeOf186 _) (Tryd.isAgg186 _) fun v13 hv13 => ?_)
          exact ⟨BX.refl _ _, hv13⟩
        · intro w21 D hS13 hd13
          have hl21 := Le.no M2 hS13
          have hC21 := hC6.no hS13
          have ho38 := ho8.no hS13
          have ho39 := ho9.no hS13
          have hr18 := hw1.no hS13
          have hd13 : PV RTest M2 x3 (D 11) w21 ∧ True := hd13
          obtain ⟨d9, -⟩ := hd13
          obtain ⟨v14, hq2⟩ : ∃ v, (D 11) = v := ⟨_, rfl⟩
          rw [hq2] at d9
          refine dg_sub (E' := [(33, v14)]) ⟨(congrArg some hq2), trivial⟩ ?_
          refine dg_plain rfl (ow_call rfl rfl Tryd.call153 (w_spec_TestSpans (hG.mono ((((((hl1.trans hl2).trans hl3).trans hl4).trans hl5).trans hl6).trans hl21)) hC21.old d9 hx5) fun v15 w22 hv15 => ?_)
          obtain ⟨hv15, hb9⟩ := hv15
          have hl22 := Le.no M2 hb9
          have hC22 := hC21.no hb9
          have ho40 := ho38.no hb9
          have ho41 := ho39.no hb9
          have hr19 := hr18.no hb9
          exact ⟨hb9, hv15⟩
        · intro w23 D hS14 hd14
          have hl23 := Le.no M2 hS14
          have hC23 := hC6.no hS14
          have ho42 := ho8.no hS14
          have ho43 := ho9.no hS14
          have hr20 := hw1.no hS14
          have hd14 : PV (RSlice RSpan) M2 x4 (D 7) w23 ∧ PV (RSlice RSpan) M2 x5 (D 12) w23 ∧ PV (RSlice RSpan) M2 x5 (D 12) w23 ∧ True := hd14
          obtain ⟨d10, d11, d12, -⟩ := hd14
          obtain ⟨v16, hq3⟩ : ∃ v, (D 7) = v := ⟨_, rfl⟩
          rw [hq3] at d10
          obtain ⟨v17, hq4⟩ : ∃ v, (D 12) = v := ⟨_, rfl⟩
          rw [hq4] at d11
          refine dg_sub (E' := [(29, v16), (34, v17)]) ⟨(congrArg some hq3), (congrArg some hq4), trivial⟩ ?_
          refine dg_plain rfl (ow_call rfl rfl Tryd.call122 (w_spec_l2Meet (hG.mono ((((((hl1.trans hl2).trans hl3).trans hl4).trans hl5).trans hl6).trans hl23)) hC23.old d10 d11 hx6) fun v18 w24 hv18 => ?_)
          obtain ⟨hv18, hb10⟩ := hv18
          have hl24 := Le.no M2 hb10
          have hC24 := hC23.no hb10
          have ho44 := ho42.no hb10
          have ho45 := ho43.no hb10
          have hr21 := hr20.no hb10
          exact ⟨hb10, hv18⟩
        · intro w25 D hS15 hd15
          have hl25 := Le.no M2 hS15
          have hC25 := hC6.no hS15
          have ho46 := ho8.no hS15
          have ho47 := ho9.no hS15
          have hr22 := hw1.no hS15
          have hd15 : PEq (.pointer (some ⟨g2, 0, none⟩)) (D 0) w25 ∧ PEq (.slice A1 x2.Sides.length c1) (D 1) w25 ∧ PEq (.int .i64 x3.Field) (D 2) w25 ∧ PEq (.pointer (some ⟨g2, 0, none⟩)) (D 3) w25 ∧ PEq (.slice A1 x2.Sides.length c1) (D 4) w25 ∧ PEq (.int .i64 x3.Field) (D 5) w25 ∧ PEq (.pointer (some ⟨blk (.slice A1 x2.Sides.length c1), (x3.Field : Int).toNat * (RSlice RSpan).size + 0, none⟩)) (D 6) w25 ∧ PV (RSlice RSpan) M2 x4 (D 7) w25 ∧ PV (RSlice RTest) M2 a_list (D 8) w25 ∧ PEq (.int .i64 k1) (D 9) w25 ∧ PA RTest M2 x3 (D 10) w25 ∧ PV RTest M2 x3 (D 11) w25 ∧ PV (RSlice RSpan) M2 x5 (D 12) w25 ∧ PV (RSlice RSpan) M2 x6 (D 13) w25 ∧ True := hd15
          obtain ⟨-, d14, d15, -, -, -, -, -, -, -, -, -, -, d26, -⟩ := hd15
          obtain ⟨v19, hq5⟩ : ∃ v, (D 13) = v := ⟨_, rfl⟩
          rw [hq5] at d26
          refine lw_sub (E' := [(23, (.slice A1 x2.Sides.length c1)), (24, (.int .i64 x3.Field)), (35, v19), (0, v0p), (2, (.pointer (some ⟨g1, 0, none⟩))), (3, (.pointer (some ⟨g2, 0, none⟩))), (4, (.int .i64 k1)), (5, (.int .i64 x3.Field))]) ⟨(congrArg some d14), (congrArg some d15), (congrArg some hq5), rfl, rfl, rfl, rfl, rfl, trivial⟩ ?_
          refine lw_op rfl rfl rfl (ow_indexRow (R := (RSlice RSpan)) rfl rfl rfl hr22 Tryd.underlying27 (Tryd.sizeOf93 _) hx4 ?_)
          refine lw_op0 rfl rfl (ow_storeElRow (X := No) (R := (RSlice RSpan)) (S := (RSlice RSpan)) rfl rfl rfl rfl hr22 (orow_blk hr22 hx4) hx4 (FldSet.whole (RSlice RSpan)) (Tryd.sizeOf93 _) d26 (Nat.le_refl _) hC25 fun w26 ho48 hb11 hl26 hC26 => ?_)
          have ho49 := ho46.go hb11 (fun e => (orow_ne hr22 ho46 (by decide)) (by rw [orow_blk hr22 hx4]; exact congrArg some e.symm))
          have ho50 := ho47.go hb11 (fun e => (orow_ne hr22 ho47 (by decide)) (by rw [orow_blk hr22 hx4]; exact congrArg some e.symm))
          refine lw_nil ?_
          refine ew_blockN ?_
          refine ew_then ?_
          refine cw_region ?_
          refine lw_op rfl rfl rfl (ow_move rfl rfl ?_)
          refine lw_op rfl rfl rfl (ow_add rfl rfl rfl ?_)
          refine lw_op rfl rfl rfl (ow_assign rfl rfl ?_)
          refine lw_nil ?_
          refine ew_nxt ((W (k1 + 1)), (List.set y1 (x3.Field : Int).toNat x6)) hb6 fun a ha => ⟨M2, ?_, ((hl6.trans hl25).trans hl26), hC26, ho48, ho49, hm5, ho50, hm6⟩
          exact ha.sub ⟨rfl, rfl, rfl, rfl, trivial⟩
      · obtain rfl := hbb1.trans hc2
        refine cw_false rfl ?_
        refine cw_exit ?_
        refine ew_thenX ?_
        refine ew_thenX ?_
        refine ew_blockX ?_
        refine ew_brk (k1, y1) hb6 fun a ha => ⟨M2, ?_, hl6, hC6, hw1, ho8, hm5, ho9, hm6⟩
        exact ha.sub ⟨rfl, rfl, rfl, rfl, trivial⟩
    · rintro ⟨k2, y2⟩ a w27 hlr2 ⟨M3, hF2, hl27, hC27, hw2, ho51, hm7, ho52, hm8⟩
      subst hlr2
      refine ew_at (E := [(0, v0p), (2, (.pointer (some ⟨g1, 0, none⟩))), (3, (.pointer (some ⟨g2, 0, none⟩))), (4, (.int .i64 k2))]) hF2 ?_
      refine ew_then ?_
      refine cw_seq ?_
      refine cw_region ?_
      refine lw_op rfl rfl rfl (ow_loadOwnA rfl rfl rfl ho52 (Tryd.isAgg29 _) (Tryd.sizeOf29 _) rfl ?_)
      have hw3 := hw2.freezeDel
      have hC28 := hw2.cxDel hC27 (fun _ e => e.elim) hO
      have hl28 := Le.del w27 M3 (.slice A1 x2.Sides.length c1)
      have hm9 : (Del (.slice A1 x2.Sides.length c1) M3) g1 := ⟨hm7, fun e => (orow_ne hw2 ho51 (by decide)) e⟩
      have hm10 : (Del (.slice A1 x2.Sides.length c1) M3) g2 := ⟨hm8, fun e => (orow_ne hw2 ho52 (by decide)) e⟩
      have hw4 : VRep RBox w27 (Del (.slice A1 x2.Sides.length c1) M3) ({ Sides := y2 } : Box) (.agg #[(.slice A1 x2.Sides.length c1)]) := shut_Box hw3
      refine lw_op0 rfl rfl (ow_store (X := No) (us := [(.slice A1 x2.Sides.length c1)]) (cs' := #[(.slice A1 x2.Sides.length c1)]) rfl rfl rfl rfl ho51 (Tryd.sizeOf29 _) rfl rfl rfl rfl hm9 (.inl hg2) rfl hC28 fun w28 ho53 hb12 hl29 hC29 => ?_)
      have ho54 := ho52.go hb12 (fun e => hn1 e.symm)
      refine lw_nil ?_
      refine ew_then ?_
      refine cw_ret ?_
      have hw5 : VRep RBox w28 (Del (.slice A1 x2.Sides.length c1) M3) ({ Sides := y2 } : Box) (.agg #[(.slice A1 x2.Sides.length c1)]) := shut_Box (VRep.mono hl29 hw3)
      obtain rfl := Option.some.inj h
      exact ew_ret (res1 rfl (.cell rfl (own_loadVarA ho53 (Tryd.isAgg29 _) (Tryd.sizeOf29 _) rfl))) ⟨_, rfl, (hw5.mono hC29.back), hC29.bx⟩
  · subst hc1
    refine cw_true rfl ?_
    refine cw_seq ?_
    refine cw_region ?_
    refine lw_op rfl rfl rfl (ow_build (v := .agg #[(.slice none 0 0)]) rfl rfl (by kernel_rfl) ?_)
    have hw6 : VRep RBox w2 (Add g1 M) ({ Sides := ([] : List (List Span)) } : Box) (.agg #[(.slice none 0 0)]) := shut_Box (vslice_nil (R := (RSlice RSpan)) (w := w2) (M := (Add g1 M)))
    refine lw_op0 rfl rfl (ow_store (X := No) (us := [(.slice none 0 0)]) (cs' := #[(.slice none 0 0)]) rfl rfl rfl rfl ho2 (Tryd.sizeOf29 _) rfl rfl rfl rfl hm1 (.inl hg2) rfl hC2 fun w29 ho55 hb13 hl30 hC30 => ?_)
    refine lw_nil ?_
    refine ew_then ?_
    refine cw_ret ?_
    refine ew_thenR ?_
    have hw7 : VRep RBox w29 (Add g1 M) ({ Sides := ([] : List (List Span)) } : Box) (.agg #[(.slice none 0 0)]) := shut_Box (VRep.mono hl30 (vslice_nil (R := (RSlice RSpan)) (w := w2) (M := (Add g1 M))))
    obtain rfl := Option.some.inj h
    exact ew_ret (res1 rfl (.cell rfl (own_loadVarA ho55 (Tryd.isAgg29 _) (Tryd.sizeOf29 _) rfl))) ⟨_, rfl, (hw7.mono hC30.back), hC30.bx⟩

theorem wo_spec_TestsBox {w : World} {M : Nat → Prop} (hG : ARep (RArr 4 RShape) w M shapes ⟨0, 0, none⟩) (hO : ∀ b, M b → b < w.heap.size) {v0p : Value} {a_list : List Test} (h0 : VRep (RSlice RTest) w M a_list v0p) {r : Box} (h : F.spec_TestsBox a_list = some r) :
    Calls Tryd.prog 142 [v0p].toArray w fun e w' => ∃ v, e = .returned v ∧ (∃ M' u, v = .agg #[u] ∧ OwnRow (RSlice RSpan) w.heap.size 93 w' M' r.Sides u ∧ Cx No w M w' M') ∧ BX No w w' := by
  have hC : Cx No w M w M := Cx.start hO (fun _ e => e.elim)
  refine walk (N := 38) Tryd.func142 rfl Tryd.ntmps142 rfl ?_
  refine cw_seq ?_
  refine cw_region ?_
  refine lw_op rfl rfl rfl (ow_alloc rfl (Tryd.zeroValue29 _) hC fun g1 w1 hg1 hg2 ho1 hb1 hl1 hC1 => ?_)
  have hm1 : (Add g1 M) g1 := .inl rfl
  refine lw_nil ?_
  refine ew_then ?_
  refine cw_seq ?_
  refine cw_seq ?_
  refine cw_region ?_
  refine lw_op rfl rfl rfl (ow_move rfl rfl ?_)
  replace h := bind_some h
  obtain ⟨x1, hx1, h⟩ := h
  refine lw_op rfl rfl rfl (ow_call rfl rfl Tryd.call102 (w_spec_TestsValid (hG.mono hl1) hC1.old (VRep.mono hl1 h0) hx1) fun v1 w2 hv1 => ?_)
  obtain ⟨hv1, hb2⟩ := hv1
  have hl2 := Le.no (Add g1 M) hb2
  have hC2 := hC1.no hb2
  have ho2 := ho1.no hb2
  obtain rfl := vbool_eq hv1
  refine lw_op rfl rfl rfl (ow_not rfl rfl ?_)
  refine lw_nil ?_
  refine ew_then ?_
  replace h := cond_some h
  rcases h with ⟨hc1, h⟩ | ⟨hc1, h⟩
  · subst hc1
    refine cw_false rfl ?_
    refine cw_skip ?_
    refine ew_then ?_
    refine cw_seq ?_
    refine cw_region ?_
    replace h := bind_some h
    obtain ⟨x2, hx2, h⟩ := h
    refine lw_op rfl rfl rfl (ow_call rfl rfl Tryd.call152 (wo_spec_BoxAll (hG.mono (hl1.trans hl2)) hC2.old hx2) fun v2 w3 hv2 => ?_)
    obtain ⟨⟨M1, v3, rfl, hr1, hk1⟩, hb3⟩ := hv2
    replace hr1 := hr1.base hC2.bx.size
    have hl3 := hk1.le
    have hC3 := hC2.trans hk1
    have ho3 := ho2.no hb3
    have hm2 := hk1.sup _ hm1
    obtain ⟨A1, c1, rfl⟩ := hr1.len
    refine lw_op rfl rfl rfl (ow_alloc rfl (Tryd.zeroValue29 _) hC3 fun g2 w4 hg3 hg4 ho4 hb4 hl4 hC4 => ?_)
    have hn1 := Nat.ne_of_lt (Nat.lt_of_lt_of_le ho3.lt hg3)
    have ho5 := ho3.no hb4
    have hm3 : (Add g2 M1) g1 := .inr hm2
    have hr2 := hr1.add hb4 hg3
    have hm4 : (Add g2 M1) g2 := .inl rfl
    refine lw_op0 rfl rfl (ow_store (X := No) (us := [(.slice A1 x2.Sides.length c1)]) (cs' := #[(.slice A1 x2.Sides.length c1)]) rfl rfl rfl rfl ho4 (Tryd.sizeOf29 _) rfl rfl rfl rfl hm4 (.inl hg4) rfl hC4 fun w5 ho6 hb5 hl5 hC5 => ?_)
    have ho7 := ho5.go hb5 (fun e => hn1 e)
    have hr3 := hr2.go hb5 (fun k hk e => (orow_ne hr2 ho4 (by decide)) (hk.trans (congrArg some e))) hl5 (fun _ h => h)
    refine lw_nil ?_
    refine ew_then ?_
    refine cw_seq ?_
    refine cw_seq ?_
    refine cw_region ?_
    refine lw_op rfl rfl rfl (ow_assign rfl rfl ?_)
    refine lw_nil ?_
    refine ew_then ?_
    replace h := bind_some h
    obtain ⟨lr1, hlr1, h⟩ := h
    refine cw_for hlr1 (fun s a w' => ∃ (M' : Nat → Prop), Fits 38 [(0, v0p), (2, (.pointer (some ⟨g1, 0, none⟩))), (3, (.pointer (some ⟨g2, 0, none⟩))), (4, (.int .i64 s.1))] a ∧ Le w5 (Add g2 M1) w' M' ∧ Cx No w M w' M' ∧ OwnRow (RSlice RSpan) w.heap.size 93 w' M' s.2 (.slice A1 x2.Sides.length c1) ∧ Own w' g1 29 #[(.slice none 0 0)] ∧ M' g1 ∧ Own w' g2 29 #[(.slice A1 x2.Sides.length c1)] ∧ M' g2) ?_ ?_ ?_
    · intro a ha
      exact ⟨(Add g2 M1), ha.sub ⟨rfl, rfl, rfl, rfl, trivial⟩, Le.refl _ _, hC5, hr3, ho7, hm3, ho6, hm4⟩
    · rintro ⟨k1, y1⟩ a w6 sr1 ⟨M2, hF1, hl6, hC6, hw1, ho8, hm5, ho9, hm6⟩ hb6 hR1
      refine cw_at (E := [(0, v0p), (2, (.pointer (some ⟨g1, 0, none⟩))), (3, (.pointer (some ⟨g2, 0, none⟩))), (4, (.int .i64 k1))]) hF1 ?_
      refine cw_seq ?_
      refine cw_seq ?_
      refine cw_region ?_
      refine lw_op rfl rfl rfl (ow_move rfl rfl ?_)
      refine lw_op rfl rfl rfl (ow_move rfl rfl ?_)
      refine lw_op rfl rfl rfl (ow_len rfl rfl (VRep.mono (((((hl1.trans hl2).trans hl3).trans hl4).trans hl5).trans hl6) h0) Tryd.underlying74 rfl ?_)
      refine lw_op rfl rfl rfl (ow_lss rfl rfl rfl fun bb1 hbb1 => ?_)
      refine lw_nil ?_
      refine ew_then ?_
      replace hb6 := cond_some hb6
      rcases hb6 with ⟨hc2, hb6⟩ | ⟨hc2, hb6⟩
      · obtain rfl := hbb1.trans hc2
        refine cw_true rfl ?_
        refine cw_skip ?_
        refine ew_then ?_
        refine cw_seq ?_
        refine cw_block ?_
        refine cw_seq ?_
        refine cw_region ?_
        refine lw_op rfl rfl rfl (ow_move rfl rfl ?_)
        refine lw_op rfl rfl rfl (ow_move rfl rfl ?_)
        replace hb6 := bind_some hb6
        obtain ⟨x3, hx3, hb6⟩ := hb6
        refine lw_op rfl rfl rfl (ow_indexSlice (R := RTest) rfl rfl rfl (VRep.mono (((((hl1.trans hl2).trans hl3).trans hl4).trans hl5).trans hl6) h0) Tryd.underlying74 (Tryd.sizeOf186 _) hx3 fun p1 hp1 => ?_)
        refine lw_op rfl rfl rfl (ow_fieldAddr rfl rfl Tryd.underlying186 rfl (Tryd.sizeOf3 _) ?_)
        refine lw_op rfl rfl rfl (ow_load (R := RInt) rfl rfl (hp1.fld fld_Test_Field) (Tryd.sizeOf3 _) (Tryd.isAgg3 _) fun v6 hv6 => ?_)
        obtain rfl := vint_eq hv6
        refine lw_op rfl rfl rfl (ow_assign rfl rfl ?_)
        refine lw_nil ?_
        refine ew_then ?_
        replace hb6 := bind_some hb6
        obtain ⟨x4, hx4, hb6⟩ := hb6
        replace hb6 := bind_some hb6
        obtain ⟨x5, hx5, hb6⟩ := hb6
        replace hb6 := bind_some hb6
        obtain ⟨x6, hx6, hb6⟩ := hb6
        refine cw_sub (E' := [(0, v0p), (2, (.pointer (some ⟨g1, 0, none⟩))), (3, (.pointer (some ⟨g2, 0, none⟩))), (4, (.int .i64 k1)), (5, (.int .i64 x3.Field))]) ⟨rfl, rfl, rfl, rfl, rfl, trivial⟩ ?_
        refine cw_drawQ 14 [PEq (.pointer (some ⟨g2, 0, none⟩)), PEq (.slice A1 x2.Sides.length c1), PEq (.int .i64 x3.Field), PEq (.pointer (some ⟨g2, 0, none⟩)), PEq (.slice A1 x2.Sides.length c1), PEq (.int .i64 x3.Field), PEq (.pointer (some ⟨blk (.slice A1 x2.Sides.length c1), (x3.Field : Int).toNat * (RSlice RSpan).size + 0, none⟩)), PV (RSlice RSpan) M2 x4, PV (RSlice RTest) M2 a_list, PEq (.int .i64 k1), PA RTest M2 x3, PV RTest M2 x3, PV (RSlice RSpan) M2 x5, PV (RSlice RSpan) M2 x6] (by kernel_rfl) rfl (by kernel_rfl) ⟨PEq.mono _, PEq.mono _, PEq.mono _, PEq.mono _, PEq.mono _, PEq.mono _, PEq.mono _, PV.mono _ _ _, PV.mono _ _ _, PEq.mono _, PA.mono _ _ _, PV.mono _ _ _, PV.mono _ _ _, PV.mono _ _ _, trivial⟩ ⟨?_, ?_, ?_, ?_, ?_, ?_, ?_, ?_, ?_, ?_, ?_, ?_, ?_, ?_, trivial⟩ ?_
        · intro w9 D hS1 hd1
          have hl9 := Le.no M2 hS1
          have hC9 := hC6.no hS1
          have ho14 := ho8.no hS1
          have ho15 := ho9.no hS1
          have hr6 := hw1.no hS1
          refine dg_sub (E' := [(3, (.pointer (some ⟨g2, 0, none⟩)))]) ⟨rfl, trivial⟩ ?_
          refine dg_plain rfl (ow_fieldAddr rfl rfl Tryd.underlying29 rfl (Tryd.sizeOf27 _) ?_)
          exact ⟨BX.refl _ _, rfl⟩
        · intro w10 D hS2 hd2
          have hl10 := Le.no M2 hS2
          have hC10 := hC6.no hS2
          have ho16 := ho8.no hS2
          have ho17 := ho9.no hS2
          have hr7 := hw1.no hS2
          have hd2 : PEq (.pointer (some ⟨g2, 0, none⟩)) (D 0) w10 ∧ True := hd2
          obtain ⟨d1, -⟩ := hd2
          refine dg_sub (E' := [(22, (.pointer (some ⟨g2, 0, none⟩)))]) ⟨(congrArg some d1), trivial⟩ ?_
          refine dg_plain rfl (ow_loadOwn1 rfl rfl rfl ho17 (Tryd.isAgg27 _) rfl ?_)
          exact ⟨BX.refl _ _, rfl⟩
        · intro w11 D hS3 hd3
          have hl11 := Le.no M2 hS3
          have hC11 := hC6.no hS3
          have ho18 := ho8.no hS3
          have ho19 := ho9.no hS3
          have hr8 := hw1.no hS3
          refine dg_sub (E' := [(5, (.int .i64 x3.Field))]) ⟨rfl, trivial⟩ ?_
          refine dg_plain rfl (ow_move rfl rfl ?_)
          exact ⟨BX.refl _ _, rfl⟩
        · intro w12 D hS4 hd4
          have hl12 := Le.no M2 hS4
          have hC12 := hC6.no hS4
          have ho20 := ho8.no hS4
          have ho21 := ho9.no hS4
          have hr9 := hw1.no hS4
          refine dg_sub (E' := [(3, (.pointer (some ⟨g2, 0, none⟩)))]) ⟨rfl, trivial⟩ ?_
          refine dg_plain rfl (ow_fieldAddr rfl rfl Tryd.underlying29 rfl (Tryd.sizeOf27 _) ?_)
          exact ⟨BX.refl _ _, rfl⟩
        · intro w13 D hS5 hd5
          have hl13 := Le.no M2 hS5
          have hC13 := hC6.no hS5
          have ho22 := ho8.no hS5
          have ho23 := ho9.no hS5
          have hr10 := hw1.no hS5
          have hd5 : PEq (.pointer (some ⟨g2, 0, none⟩)) (D 3) w13 ∧ True := hd5
          obtain ⟨d2, -⟩ := hd5
          refine dg_sub (E' := [(25, (.pointer (some ⟨g2, 0, none⟩)))]) ⟨(congrArg some d2), trivial⟩ ?_
          refine dg_plain rfl (ow_loadOwn1 rfl rfl rfl ho23 (Tryd.isAgg27 _) rfl ?_)
          exact ⟨BX.refl _ _, rfl⟩
        · intro w14 D hS6 hd6
          have hl14 := Le.no M2 hS6
          have hC14 := hC6.no hS6
          have ho24 := ho8.no hS6
          have ho25 := ho9.no hS6
          have hr11 := hw1.no hS6
          refine dg_sub (E' := [(5, (.int .i64 x3.Field))]) ⟨rfl, trivial⟩ ?_
          refine dg_plain rfl (ow_move rfl rfl ?_)
          exact ⟨BX.refl _ _, rfl⟩
        · intro w15 D hS7 hd7
          have hl15 := Le.no M2 hS7
          have hC15 := hC6.no hS7
          have ho26 := ho8.no hS7
          have ho27 := ho9.no hS7
          have hr12 := hw1.no hS7
          have hd7 : PEq (.slice A1 x2.Sides.length c1) (D 4) w15 ∧ PEq (.int .i64 x3.Field) (D 5) w15 ∧ True := hd7
          obtain ⟨d3, d4, -⟩ := hd7
          refine dg_sub (E' := [(26, (.slice A1 x2.Sides.length c1)), (27, (.int .i64 x3.Field))]) ⟨(congrArg some d3), (congrArg some d4), trivial⟩ ?_
          refine dg_plain rfl (ow_indexRow (R := (RSlice RSpan)) rfl rfl rfl hr12 Tryd.underlying27 (Tryd.sizeOf93 _) hx4 ?_)
          exact ⟨BX.refl _ _, rfl⟩
        · intro w16 D hS8 hd8
          have hl16 := Le.no M2 hS8
          have hC16 := hC6.no hS8
          have ho28 := ho8.no hS8
          have ho29 := ho9.no hS8
          have hr13 := hw1.no hS8
          have hd8 : PEq (.pointer (some ⟨blk (.slice A1 x2.Sides.length c1), (x3.Field : Int).toNat * (RSlice RSpan).size + 0, none⟩)) (D 6) w16 ∧ True := hd8
          obtain ⟨d5, -⟩ := hd8
          refine dg_sub (E' := [(28, (.pointer (some ⟨blk (.slice A1 x2.Sides.length c1), (x3.Field : Int).toNat * (RSlice RSpan).size + 0, none⟩)))]) ⟨(congrArg some d5), trivial⟩ ?_
          refine dg_plain rfl (ow_loadElRow (R := (RSlice RSpan)) (S := (RSlice RSpan)) rfl rfl rfl hr13 (orow_blk hr13 hx4) hx4 (Fld.whole (RSlice RSpan)) (Tryd.sizeOf93 _) (Tryd.isAgg93 _) fun v11 hv11 => ?_)
          exact ⟨BX.refl _ _, hv11⟩
        · intro w17 D hS9 hd9
          have hl17 := Le.no M2 hS9
          have hC17 := hC6.no hS9
          have ho30 := ho8.no hS9
          have ho31 := ho9.no hS9
          have hr14 := hw1.no hS9
          refine dg_sub (E' := [(0, v0p)]) ⟨rfl, trivial⟩ ?_
          refine dg_plain rfl (ow_move rfl rfl ?_)
          exact ⟨BX.refl _ _, (VRep.mono ((((((hl1.trans hl2).trans hl3).trans hl4).trans hl5).trans hl6).trans hl17) h0)⟩
        · intro w18 D hS10 hd10
          have hl18 := Le.no M2 hS10
          have hC18 := hC6.no hS10
          have ho32 := ho8.no hS10
          have ho33 := ho9.no hS10
          have hr15 := hw1.no hS10
          refine dg_sub (E' := [(4, (.int .i64 k1))]) ⟨rfl, trivial⟩ ?_
          refine dg_plain rfl (ow_move rfl rfl ?_)
          exact ⟨BX.refl _ _, rfl⟩
        · intro w19 D hS11 hd11
          have hl19 := Le.no M2 hS11
          have hC19 := hC6.no hS11
          have ho34 := ho8.no hS11
          have ho35 := ho9.no hS11
          have hr16 := hw1.no hS11
          have hd11 : PV (RSlice RTest) M2 a_list (D 8) w19 ∧ PEq (.int .i64 k1) (D 9) w19 ∧ True := hd11
          obtain ⟨d6, d7, -⟩ := hd11
          obtain ⟨v12, hq1⟩ : ∃ v, (D 8) = v := ⟨_, rfl⟩
          rw [hq1] at d6
          refine dg_sub (E' := [(30, v12), (31, (.int .i64 k1))]) ⟨(congrArg some hq1), (congrArg some d7), trivial⟩ ?_
          refine dg_plain rfl (ow_indexSlice (R := RTest) rfl rfl rfl d6 Tryd.underlying74 (Tryd.sizeOf186 _) hx3 fun p3 hp3 => ?_)
          exact ⟨BX.refl _ _, ⟨_, rfl, hp3⟩⟩
        · intro w20 D hS12 hd12
          have hl20 := Le.no M2 hS12
          have hC20 := hC6.no hS12
          have ho36 := ho8.no hS12
          have ho37 := ho9.no hS12
          have hr17 := hw1.no hS12
          have hd12 : PA RTest M2 x3 (D 10) w20 ∧ True := hd12
          obtain ⟨d8, -⟩ := hd12
          obtain ⟨p4, e1, ha1⟩ := d8
          refine dg_sub (E' := [(32, (.pointer (some p4)))]) ⟨(congrArg some e1), trivial⟩ ?_
          refine dg_plain rfl (ow_load (R := RTest) rfl rfl ha1 (Tryd.sizeOf186 _) (Tryd.isAgg186 _) fun v13 hv13 => ?_)
          exact ⟨BX.refl _ _, hv13⟩
        · intro w21 D hS13 hd13
          have hl21 := Le.no M2 hS13
          have hC21 := hC6.no hS13
          have ho38 := ho8.no hS13
          have ho39 := ho9.no hS13
          have hr18 := hw1.no hS13
          have hd13 : PV RTest M2 x3 (D 11) w21 ∧ True := hd13
          obtain ⟨d9, -⟩ := hd13
          obtain ⟨v14, hq2⟩ : ∃ v, (D 11) = v := ⟨_, rfl⟩
          rw [hq2] at d9
          refine dg_sub (E' := [(33, v14)]) ⟨(congrArg some hq2), trivial⟩ ?_
          refine dg_plain rfl (ow_call rfl rfl Tryd.call153 (w_spec_TestSpans (hG.mono ((((((hl1.trans hl2).trans hl3).trans hl4).trans hl5).trans hl6).trans hl21)) hC21.old d9 hx5) fun v15 w22 hv15 => ?_)
          obtain ⟨hv15, hb9⟩ := hv15
          have hl22 := Le.no M2 hb9
          have hC22 := hC21.no hb9
          have ho40 := ho38.no hb9
          have ho41 := ho39.no hb9
          have hr19 := hr18.no hb9
          exact ⟨hb9, hv15⟩
        · intro w23 D hS14 hd14
          have hl23 := Le.no M2 hS14
          have hC23 := hC6.no hS14
          have ho42 := ho8.no hS14
          have ho43 := ho9.no hS14
          have hr20 := hw1.no hS14
          have hd14 : PV (RSlice RSpan) M2 x4 (D 7) w23 ∧ PV (RSlice RSpan) M2 x5 (D 12) w23 ∧ PV (RSlice RSpan) M2 x5 (D 12) w23 ∧ True := hd14
          obtain ⟨d10, d11, d12, -⟩ := hd14
          obtain ⟨v16, hq3⟩ : ∃ v, (D 7) = v := ⟨_, rfl⟩
          rw [hq3] at d10
          obtain ⟨v17, hq4⟩ : ∃ v, (D 12) = v := ⟨_, rfl⟩
          rw [hq4] at d11
          refine dg_sub (E' := [(29, v16), (34, v17)]) ⟨(congrArg some hq3), (congrArg some hq4), trivial⟩ ?_
          refine dg_plain rfl (ow_call rfl rfl Tryd.call122 (w_spec_l2Meet (hG.mono ((((((hl1.trans hl2).trans hl3).trans hl4).trans hl5).trans hl6).trans hl23)) hC23.old d10 d11 hx6) fun v18 w24 hv18 => ?_)
          obtain ⟨hv18, hb10⟩ := hv18
          have hl24 := Le.no M2 hb10
          have hC24 := hC23.no hb10
          have ho44 := ho42.no hb10
          have ho45 := ho43.no hb10
          have hr21 := hr20.no hb10
          exact ⟨hb10, hv18⟩
        · intro w25 D hS15 hd15
          have hl25 := Le.no M2 hS15
          have hC25 := hC6.no hS15
          have ho46 := ho8.no hS15
          have ho47 := ho9.no hS15
          have hr22 := hw1.no hS15
          have hd15 : PEq (.pointer (some ⟨g2, 0, none⟩)) (D 0) w25 ∧ PEq (.slice A1 x2.Sides.length c1) (D 1) w25 ∧ PEq (.int .i64 x3.Field) (D 2) w25 ∧ PEq (.pointer (some ⟨g2, 0, none⟩)) (D 3) w25 ∧ PEq (.slice A1 x2.Sides.length c1) (D 4) w25 ∧ PEq (.int .i64 x3.Field) (D 5) w25 ∧ PEq (.pointer (some ⟨blk (.slice A1 x2.Sides.length c1), (x3.Field : Int).toNat * (RSlice RSpan).size + 0, none⟩)) (D 6) w25 ∧ PV (RSlice RSpan) M2 x4 (D 7) w25 ∧ PV (RSlice RTest) M2 a_list (D 8) w25 ∧ PEq (.int .i64 k1) (D 9) w25 ∧ PA RTest M2 x3 (D 10) w25 ∧ PV RTest M2 x3 (D 11) w25 ∧ PV (RSlice RSpan) M2 x5 (D 12) w25 ∧ PV (RSlice RSpan) M2 x6 (D 13) w25 ∧ True := hd15
          obtain ⟨-, d14, d15, -, -, -, -, -, -, -, -, -, -, d26, -⟩ := hd15
          obtain ⟨v19, hq5⟩ : ∃ v, (D 13) = v := ⟨_, rfl⟩
          rw [hq5] at d26
          refine lw_sub (E' := [(23, (.slice A1 x2.Sides.length c1)), (24, (.int .i64 x3.Field)), (35, v19), (0, v0p), (2, (.pointer (some ⟨g1, 0, none⟩))), (3, (.pointer (some ⟨g2, 0, none⟩))), (4, (.int .i64 k1)), (5, (.int .i64 x3.Field))]) ⟨(congrArg some d14), (congrArg some d15), (congrArg some hq5), rfl, rfl, rfl, rfl, rfl, trivial⟩ ?_
          refine lw_op rfl rfl rfl (ow_indexRow (R := (RSlice RSpan)) rfl rfl rfl hr22 Tryd.underlying27 (Tryd.sizeOf93 _) hx4 ?_)
          refine lw_op0 rfl rfl (ow_storeElRow (X := No) (R := (RSlice RSpan)) (S := (RSlice RSpan)) rfl rfl rfl rfl hr22 (orow_blk hr22 hx4) hx4 (FldSet.whole (RSlice RSpan)) (Tryd.sizeOf93 _) d26 (Nat.le_refl _) hC25 fun w26 ho48 hb11 hl26 hC26 => ?_)
          have ho49 := ho46.go hb11 (fun e => (orow_ne hr22 ho46 (by decide)) (by rw [orow_blk hr22 hx4]; exact congrArg some e.symm))
          have ho50 := ho47.go hb11 (fun e => (orow_ne hr22 ho47 (by decide)) (by rw [orow_blk hr22 hx4]; exact congrArg some e.symm))
          refine lw_nil ?_
          refine ew_blockN ?_
          refine ew_then ?_
          refine cw_region ?_
          refine lw_op rfl rfl rfl (ow_move rfl rfl ?_)
          refine lw_op rfl rfl rfl (ow_add rfl rfl rfl ?_)
          refine lw_op rfl rfl rfl (ow_assign rfl rfl ?_)
          refine lw_nil ?_
          refine ew_nxt ((W (k1 + 1)), (List.set y1 (x3.Field : Int).toNat x6)) hb6 fun a ha => ⟨M2, ?_, ((hl6.trans hl25).trans hl26), hC26, ho48, ho49, hm5, ho50, hm6⟩
          exact ha.sub ⟨rfl, rfl, rfl, rfl, trivial⟩
      · obtain rfl := hbb1.trans hc2
        refine cw_false rfl ?_
        refine cw_exit ?_
        refine ew_thenX ?_
        refine ew_thenX ?_
        refine ew_blockX ?_
        refine ew_brk (k1, y1) hb6 fun a ha => ⟨M2, ?_, hl6, hC6, hw1, ho8, hm5, ho9, hm6⟩
        exact ha.sub ⟨rfl, rfl, rfl, rfl, trivial⟩
    · rintro ⟨k2, y2⟩ a w27 hlr2 ⟨M3, hF2, hl27, hC27, hw2, ho51, hm7, ho52, hm8⟩
      subst hlr2
      refine ew_at (E := [(0, v0p), (2, (.pointer (some ⟨g1, 0, none⟩))), (3, (.pointer (some ⟨g2, 0, none⟩))), (4, (.int .i64 k2))]) hF2 ?_
      refine ew_then ?_
      refine cw_seq ?_
      refine cw_region ?_
      refine lw_op rfl rfl rfl (ow_loadOwnA rfl rfl rfl ho52 (Tryd.isAgg29 _) (Tryd.sizeOf29 _) rfl ?_)
      refine lw_op0 rfl rfl (ow_store (X := No) (us := [(.slice A1 x2.Sides.length c1)]) (cs' := #[(.slice A1 x2.Sides.length c1)]) rfl rfl rfl rfl ho51 (Tryd.sizeOf29 _) rfl rfl rfl rfl hm7 (.inl hg2) rfl hC27 fun w28 ho53 hb12 hl28 hC28 => ?_)
      have ho54 := ho52.go hb12 (fun e => hn1 e.symm)
      have hr23 := hw2.go hb12 (fun k hk e => (orow_ne hw2 ho51 (by decide)) (hk.trans (congrArg some e))) hl28 (fun _ h => h)
      refine lw_nil ?_
      refine ew_then ?_
      refine cw_ret ?_
      obtain rfl := Option.some.inj h
      exact ew_ret (res1 rfl (.cell rfl (own_loadVarA ho53 (Tryd.isAgg29 _) (Tryd.sizeOf29 _) rfl))) ⟨_, rfl, ⟨M3, _, rfl, hr23, hC28⟩, hC28.bx⟩
  · subst hc1
    refine cw_true rfl ?_
    refine cw_seq ?_
    refine cw_region ?_
    refine lw_op rfl rfl rfl (ow_build (v := .agg #[(.slice none 0 0)]) rfl rfl (by kernel_rfl) ?_)
    have hw3 : VRep RBox w2 (Add g1 M) ({ Sides := ([] : List (List Span)) } : Box) (.agg #[(.slice none 0 0)]) := shut_Box (vslice_nil (R := (RSlice RSpan)) (w := w2) (M := (Add g1 M)))
    refine lw_op0 rfl rfl (ow_store (X := No) (us := [(.slice none 0 0)]) (cs' := #[(.slice none 0 0)]) rfl rfl rfl rfl ho2 (Tryd.sizeOf29 _) rfl rfl rfl rfl hm1 (.inl hg2) rfl hC2 fun w29 ho55 hb13 hl29 hC29 => ?_)
    refine lw_nil ?_
    refine ew_then ?_
    refine cw_ret ?_
    refine ew_thenR ?_
    obtain rfl := Option.some.inj h
    exact ew_ret (res1 rfl (.cell rfl (own_loadVarA ho55 (Tryd.isAgg29 _) (Tryd.sizeOf29 _) rfl))) ⟨_, rfl, ⟨(Add g1 M), _, rfl, ownrow_nil, hC29⟩, hC29.bx⟩

theorem w_spec_l1Add {w : World} {M : Nat → Prop} (_hG : ARep (RArr 4 RShape) w M shapes ⟨0, 0, none⟩) (hO : ∀ b, M b → b < w.heap.size) {v0p : Value} {a_list : List Span} (h0 : VRep (RSlice RSpan) w M a_list v0p) {v1p : Value} {a_s : Span} (h1 : VRep RSpan w M a_s v1p) {r : (List Span)} (h : F.spec_l1Add a_list a_s = some r) :
    Calls Tryd.prog 160 [v0p, v1p].toArray w fun e w' => ∃ v, e = .returned v ∧ VRep (RSlice RSpan) w' M r v ∧ BX No w w' := by
  obtain ⟨i140, hi140, hz140, hs140, hy140⟩ := info140
  have hC : Cx No w M w M := Cx.start hO (fun _ e => e.elim)
  clear _hG
  refine walk (N := 66) Tryd.func160 rfl Tryd.ntmps160 rfl ?_
  refine cw_seq ?_
  refine cw_region ?_
  obtain rfl := open_Span h1
  refine lw_op rfl rfl rfl (ow_boxOwn rfl rfl hC fun g1 w1 hg1 hg2 ho1 hb1 hl1 hC1 => ?_)
  have hm1 : (Add g1 M) g1 := .inl rfl
  refine lw_op rfl rfl rfl (ow_assign rfl rfl ?_)
  refine lw_nil ?_
  refine ew_then ?_
  refine cw_seq ?_
  refine cw_region ?_
  refine lw_op rfl rfl rfl (ow_buildSlice0 (R := RSpan) (e := 140) rfl (by kernel_rfl) hC1 fun p1 w2 M1 hr1 hb2 hl2 hC2 hM1 hat1 => ?_)
  have hn1 : (Value.ownBlock (.slice (some p1) 0 0)) ≠ some g1 := nb_new (congrArg some hat1) ho1
  have ho2 := ho1.no hb2
  have hm2 := hM1 _ hm1
  refine lw_op rfl rfl rfl (ow_assign rfl rfl ?_)
  refine lw_nil ?_
  refine ew_then ?_
  refine cw_seq ?_
  refine cw_region ?_
  refine lw_op rfl rfl rfl (ow_assign rfl rfl ?_)
  refine lw_nil ?_
  refine ew_then ?_
  refine cw_seq ?_
  refine cw_seq ?_
  refine cw_region ?_
  refine lw_op rfl rfl rfl (ow_assign rfl rfl ?_)
  refine lw_nil ?_
  refine ew_then ?_
  replace h := bind_some h
  obtain ⟨lr1, hlr1, h⟩ := h
  refine cw_for hlr1 (fun s a w' => ∃ (M' : Nat → Prop) (v0c : Value), Fits 66 [(0, v0p), (3, (.pointer (some ⟨g1, 0, none⟩))), (5, v0c), (6, (.bool s.2.1)), (7, (.int .i64 s.2.2.1))] a ∧ Le w2 M1 w' M' ∧ Cx No w M w' M' ∧ OwnRow RSpan w.heap.size 140 w' M' s.1 v0c ∧ Own w' g1 140 #[(.int .i64 s.2.2.2.1), (.int .i64 s.2.2.2.2)] ∧ M' g1 ∧ (Value.ownBlock v0c) ≠ some g1) ?_ ?_ ?_
  · intro a ha
    exact ⟨M1, (.slice (some p1) 0 0), ha.sub ⟨rfl, rfl, rfl, rfl, rfl, trivial⟩, Le.refl _ _, hC2, hr1, ho2, hm2, hn1⟩
  · rintro ⟨y1, y2, k1, k2, k3⟩ a w3 sr1 ⟨M2, v1, hF1, hl3, hC3, hw1, ho3, hm3, hn2⟩ hb3 hR1
    refine cw_at (E := [(0, v0p), (3, (.pointer (some ⟨g1, 0, none⟩))), (5, v1), (6, (.bool y2)), (7, (.int .i64 k1))]) hF1 ?_
    refine cw_seq ?_
    refine cw_seq ?_
    refine cw_region ?_
    refine lw_op rfl rfl rfl (ow_move rfl rfl ?_)
    refine lw_op rfl rfl rfl (ow_move rfl rfl ?_)
    refine lw_op rfl rfl rfl (ow_len rfl rfl (VRep.mono ((hl1.trans hl2).trans hl3) h0) Tryd.underlying93 rfl ?_)
    refine lw_op rfl rfl rfl (ow_lss rfl rfl rfl fun bb1 hbb1 => ?_)
    refine lw_nil ?_
    refine ew_then ?_
    replace hb3 := cond_some hb3
    rcases hb3 with ⟨hc1, hb3⟩ | ⟨hc1, hb3⟩
    · obtain rfl := hbb1.trans hc1
      refine cw_true rfl ?_
      refine cw_skip ?_
      refine ew_then ?_
      refine cw_seq ?_
      refine cw_block ?_
      refine cw_seq ?_
      refine cw_region ?_
      refine lw_op rfl rfl rfl (ow_move rfl rfl ?_)
      refine lw_op rfl rfl rfl (ow_move rfl rfl ?_)
      replace hb3 := bind_some hb3
      obtain ⟨x1, hx1, hb3⟩ := hb3
      refine lw_op rfl rfl rfl (ow_indexSlice (R := RSpan) rfl rfl rfl (VRep.mono ((hl1.trans hl2).trans hl3) h0) Tryd.underlying93 (Tryd.sizeOf140 _) hx1 fun p2 hp2 => ?_)
      refine lw_op rfl rfl rfl (ow_load (R := RSpan) rfl rfl hp2 (Tryd.sizeOf140 _) (Tryd.isAgg140 _) fun v6 hv6 => ?_)
      refine lw_allocStore (R := RSpan) rfl rfl rfl rfl rfl rfl rfl Tryd.zeroValue140 Tryd.sizeOf140 rfl rfl rfl (by simp) hv6 hC3 fun p3 w4 hp3 hb4 hl4 hC4 => ?_
      have ho4 := ho3.no hb4
      have hr2 := hw1.no hb4
      refine lw_nil ?_
      refine ew_then ?_
      refine cw_block ?_
      refine cw_seq ?_
      refine cw_region ?_
      refine lw_op rfl rfl rfl (ow_fieldAddr rfl rfl Tryd.underlying140 rfl (Tryd.sizeOf3 _) ?_)
      refine lw_op rfl rfl rfl (ow_load (R := RInt) rfl rfl (hp3.fld fld_Span_Hi) (Tryd.sizeOf3 _) (Tryd.isAgg3 _) fun v7 hv7 => ?_)
      obtain rfl := vint_eq hv7
      refine lw_op rfl rfl rfl (ow_add rfl rfl rfl ?_)
      refine lw_op rfl rfl rfl (ow_fieldAddr rfl rfl Tryd.underlying140 rfl (Tryd.sizeOf3 _) ?_)
      refine lw_op rfl rfl rfl (ow_loadOwn1 rfl rfl rfl ho4 (Tryd.isAgg3 _) rfl ?_)
      refine lw_op rfl rfl rfl (ow_lss rfl rfl rfl fun bb2 hbb2 => ?_)
      refine lw_op rfl rfl rfl (ow_assign rfl rfl ?_)
      refine lw_nil ?_
      refine ew_then ?_
      replace hb3 := cond_some hb3
      rcases hb3 with ⟨hc2, hb3⟩ | ⟨hc2, hb3⟩
      · obtain rfl := hbb2.trans hc2
        refine cw_true rfl ?_
        refine cw_region ?_
        refine lw_op rfl rfl rfl (ow_move rfl rfl ?_)
        refine lw_op rfl rfl rfl (ow_load (R := RSpan) rfl rfl hp3 (Tryd.sizeOf140 _) (Tryd.isAgg140 _) fun v8 hv8 => ?_)
        obtain rfl := open_Span hv8
        refine lw_op rfl rfl rfl (ow_buildSlice (R := RSpan) (xs := [x1]) (cs := #[(.int .i64 x1.Lo), (.int .i64 x1.Hi)]) (e := 140) rfl rfl (by kernel_rfl) rfl rfl ⟨_, _, rfl, hv8.cells, rfl⟩ hC4 fun p4 w5 hw2 hb5 hl5 hC5 => ?_)
        have ho5 := ho4.no hb5
        have hr3 := hr2.no hb5
        replace hb3 := bind_some hb3
        obtain ⟨z1, hz1, hb3⟩ := hb3
        refine lw_op rfl rfl rfl (ow_append (R := RSpan) rfl rfl rfl rfl Tryd.underlying93 hi140 hz140 hs140 hy140 rfl rfl rfl rfl hr3 hw2 hz1 hC5 fun v9 w6 M3 hr4 hb6 hl6 hC6 hM2 hat2 => ?_)
        have hn3 : v9.ownBlock ≠ some g1 := nb_app hn2 hat2 ho5
        have ho6 := ho5.go hb6 (fun e => hn2 e)
        have hm4 := hM2 _ hm3
        refine lw_op rfl rfl rfl (ow_assign rfl rfl ?_)
        refine lw_nil ?_
        refine ew_blockN ?_
        refine ew_blockN ?_
        refine ew_then ?_
        refine cw_region ?_
        refine lw_op rfl rfl rfl (ow_move rfl rfl ?_)
        refine lw_op rfl rfl rfl (ow_add rfl rfl rfl ?_)
        refine lw_op rfl rfl rfl (ow_assign rfl rfl ?_)
        refine lw_nil ?_
        refine ew_nxt (z1, y2, (W (k1 + 1)), k2, k3) hb3 fun a ha => ⟨M3, v9, ?_, (((hl3.trans hl4).trans hl5).trans hl6), hC6, hr4, ho6, hm4, hn3⟩
        exact ha.sub ⟨rfl, rfl, rfl, rfl, rfl, trivial⟩
      · obtain rfl := hbb2.trans hc2
        refine cw_false rfl ?_
        refine cw_seq ?_
        refine cw_region ?_
        refine lw_op rfl rfl rfl (ow_fieldAddr rfl rfl Tryd.underlying140 rfl (Tryd.sizeOf3 _) ?_)
        refine lw_op rfl rfl rfl (ow_load (R := RInt) rfl rfl (hp3.fld fld_Span_Lo) (Tryd.sizeOf3 _) (Tryd.isAgg3 _) fun v10 hv10 => ?_)
        obtain rfl := vint_eq hv10
        refine lw_op rfl rfl rfl (ow_fieldAddr rfl rfl Tryd.underlying140 rfl (Tryd.sizeOf3 _) ?_)
        refine lw_op rfl rfl rfl (ow_loadOwn1 rfl rfl rfl ho4 (Tryd.isAgg3 _) rfl ?_)
        refine lw_op rfl rfl rfl (ow_add rfl rfl rfl ?_)
        refine lw_op rfl rfl rfl (ow_gtr rfl rfl rfl fun bb3 hbb3 => ?_)
        refine lw_op rfl rfl rfl (ow_assign rfl rfl ?_)
        refine lw_nil ?_
        refine ew_then ?_
        replace hb3 := cond_some hb3
        rcases hb3 with ⟨hc3, hb3⟩ | ⟨hc3, hb3⟩
        · obtain rfl := hbb3.trans hc3
          refine cw_true rfl ?_
          refine cw_seq ?_
          refine cw_seq ?_
          refine cw_region ?_
          refine lw_op rfl rfl rfl (ow_move rfl rfl ?_)
          refine lw_op rfl rfl rfl (ow_not rfl rfl ?_)
          refine lw_nil ?_
          refine ew_then ?_
          replace hb3 := cond_some hb3
          rcases hb3 with ⟨hc4, hb3⟩ | ⟨hc4, hb3⟩
          · subst hc4
            refine cw_false rfl ?_
            refine cw_skip ?_
            refine ew_then ?_
            refine cw_region ?_
            refine lw_op rfl rfl rfl (ow_move rfl rfl ?_)
            refine lw_op rfl rfl rfl (ow_load (R := RSpan) rfl rfl hp3 (Tryd.sizeOf140 _) (Tryd.isAgg140 _) fun v11 hv11 => ?_)
            obtain rfl := open_Span hv11
            refine lw_op rfl rfl rfl (ow_buildSlice (R := RSpan) (xs := [x1]) (cs := #[(.int .i64 x1.Lo), (.int .i64 x1.Hi)]) (e := 140) rfl rfl (by kernel_rfl) rfl rfl ⟨_, _, rfl, hv11.cells, rfl⟩ hC4 fun p5 w7 hw3 hb7 hl7 hC7 => ?_)
            have ho7 := ho4.no hb7
            have hr5 := hr2.no hb7
            replace hb3 := bind_some hb3
            obtain ⟨z2, hz2, hb3⟩ := hb3
            refine lw_op rfl rfl rfl (ow_append (R := RSpan) rfl rfl rfl rfl Tryd.underlying93 hi140 hz140 hs140 hy140 rfl rfl rfl rfl hr5 hw3 hz2 hC7 fun v12 w8 M4 hr6 hb8 hl8 hC8 hM3 hat3 => ?_)
            have hn4 : v12.ownBlock ≠ some g1 := nb_app hn2 hat3 ho7
            have ho8 := ho7.go hb8 (fun e => hn2 e)
            have hm5 := hM3 _ hm3
            refine lw_op rfl rfl rfl (ow_assign rfl rfl ?_)
            refine lw_nil ?_
            refine ew_blockN ?_
            refine ew_blockN ?_
            refine ew_then ?_
            refine cw_region ?_
            refine lw_op rfl rfl rfl (ow_move rfl rfl ?_)
            refine lw_op rfl rfl rfl (ow_add rfl rfl rfl ?_)
            refine lw_op rfl rfl rfl (ow_assign rfl rfl ?_)
            refine lw_nil ?_
            refine ew_nxt (z2, true, (W (k1 + 1)), k2, k3) hb3 fun a ha => ⟨M4, v12, ?_, (((hl3.trans hl4).trans hl7).trans hl8), hC8, hr6, ho8, hm5, hn4⟩
            exact ha.sub ⟨rfl, rfl, rfl, rfl, rfl, trivial⟩
          · subst hc4
            refine cw_true rfl ?_
            refine cw_seq ?_
            refine cw_region ?_
            refine lw_op rfl rfl rfl (ow_move rfl rfl ?_)
            refine lw_op rfl rfl rfl (ow_loadOwnA rfl rfl rfl ho4 (Tryd.isAgg140 _) (Tryd.sizeOf140 _) rfl ?_)
            have hw4 : VRep RSpan w4 M2 ({ Lo := k2, Hi := k3 } : Span) (.agg #[(.int .i64 k2), (.int .i64 k3)]) := shut_Span
            refine lw_op rfl rfl rfl (ow_buildSlice (R := RSpan) (xs := [({ Lo := k2, Hi := k3 } : Span)]) (cs := #[(.int .i64 k2), (.int .i64 k3)]) (e := 140) rfl rfl (by kernel_rfl) rfl rfl ⟨_, _, rfl, hw4.cells, rfl⟩ hC4 fun p6 w9 hw5 hb9 hl9 hC9 => ?_)
            have ho9 := ho4.no hb9
            have hr7 := hr2.no hb9
            replace hb3 := bind_some hb3
            obtain ⟨z3, hz3, hb3⟩ := hb3
            refine lw_op rfl rfl rfl (ow_append (R := RSpan) rfl rfl rfl rfl Tryd.underlying93 hi140 hz140 hs140 hy140 rfl rfl rfl rfl hr7 hw5 hz3 hC9 fun v13 w10 M5 hr8 hb10 hl10 hC10 hM4 hat4 => ?_)
            have hn5 : v13.ownBlock ≠ some g1 := nb_app hn2 hat4 ho9
            have ho10 := ho9.go hb10 (fun e => hn2 e)
            have hm6 := hM4 _ hm3
            refine lw_op rfl rfl rfl (ow_assign rfl rfl ?_)
            refine lw_nil ?_
            refine ew_then ?_
            refine cw_region ?_
            refine lw_op rfl rfl rfl (ow_assign rfl rfl ?_)
            refine lw_nil ?_
            refine ew_then ?_
            refine cw_region ?_
            refine lw_op rfl rfl rfl (ow_move rfl rfl ?_)
            refine lw_op rfl rfl rfl (ow_load (R := RSpan) rfl rfl (ARep.mono (hl9.trans hl10) hp3) (Tryd.sizeOf140 _) (Tryd.isAgg140 _) fun v14 hv14 => ?_)
            obtain rfl := open_Span hv14
            refine lw_op rfl rfl rfl (ow_buildSlice (R := RSpan) (xs := [x1]) (cs := #[(.int .i64 x1.Lo), (.int .i64 x1.Hi)]) (e := 140) rfl rfl (by kernel_rfl) rfl rfl ⟨_, _, rfl, hv14.cells, rfl⟩ hC10 fun p7 w11 hw6 hb11 hl11 hC11 => ?_)
            have ho11 := ho10.no hb11
            have hr9 := hr8.no hb11
            replace hb3 := bind_some hb3
            obtain ⟨z4, hz4, hb3⟩ := hb3
            refine lw_op rfl rfl rfl (ow_append (R := RSpan) rfl rfl rfl rfl Tryd.underlying93 hi140 hz140 hs140 hy140 rfl rfl rfl rfl hr9 hw6 hz4 hC11 fun v15 w12 M6 hr10 hb12 hl12 hC12 hM5 hat5 => ?_)
            have hn6 : v15.ownBlock ≠ some g1 := nb_app hn5 hat5 ho11
            have ho12 := ho11.go hb12 (fun e => hn5 e)
            have hm7 := hM5 _ hm6
            refine lw_op rfl rfl rfl (ow_assign rfl rfl ?_)
            refine lw_nil ?_
            refine ew_blockN ?_
            refine ew_blockN ?_
            refine ew_then ?_
            refine cw_region ?_
            refine lw_op rfl rfl rfl (ow_move rfl rfl ?_)
            refine lw_op rfl rfl rfl (ow_add rfl rfl rfl ?_)
            refine lw_op rfl rfl rfl (ow_assign rfl rfl ?_)
            refine lw_nil ?_
            refine ew_nxt (z4, true, (W (k1 + 1)), k2, k3) hb3 fun a ha => ⟨M6, v15, ?_, (((((hl3.trans hl4).trans hl9).trans hl10).trans hl11).trans hl12), hC12, hr10, ho12, hm7, hn6⟩
            exact ha.sub ⟨rfl, rfl, rfl, rfl, rfl, trivial⟩
        · obtain rfl := hbb3.trans hc3
          refine cw_false rfl ?_
          refine cw_region ?_
          refine lw_op rfl rfl rfl (ow_fieldAddr rfl rfl Tryd.underlying140 rfl (Tryd.sizeOf3 _) ?_)
          refine lw_op rfl rfl rfl (ow_loadOwn1 rfl rfl rfl ho4 (Tryd.isAgg3 _) rfl ?_)
          refine lw_op rfl rfl rfl (ow_fieldAddr rfl rfl Tryd.underlying140 rfl (Tryd.sizeOf3 _) ?_)
          refine lw_op rfl rfl rfl (ow_load (R := RInt) rfl rfl (hp3.fld fld_Span_Lo) (Tryd.sizeOf3 _) (Tryd.isAgg3 _) fun v16 hv16 => ?_)
          obtain rfl := vint_eq hv16
          refine lw_op rfl rfl rfl (ow_min rfl rfl rfl ?_)
          refine lw_op rfl rfl rfl (ow_fieldAddr rfl rfl Tryd.underlying140 rfl (Tryd.sizeOf3 _) ?_)
          refine lw_op rfl rfl rfl (ow_loadOwn1 rfl rfl rfl ho4 (Tryd.isAgg3 _) rfl ?_)
          refine lw_op rfl rfl rfl (ow_fieldAddr rfl rfl Tryd.underlying140 rfl (Tryd.sizeOf3 _) ?_)
          refine lw_op rfl rfl rfl (ow_load (R := RInt) rfl rfl (hp3.fld fld_Span_Hi) (Tryd.sizeOf3 _) (Tryd.isAgg3 _) fun v17 hv17 => ?_)
          obtain rfl := vint_eq hv17
          refine lw_op rfl rfl rfl (ow_max rfl rfl rfl ?_)
          refine lw_op rfl rfl rfl (ow_build (v := .agg #[(.int .i64 (imin k2 x1.Lo)), (.int .i64 (imax k3 x1.Hi))]) rfl rfl (by kernel_rfl) ?_)
          have hw7 : VRep RSpan w4 M2 ({ Lo := (imin k2 x1.Lo), Hi := (imax k3 x1.Hi) } : Span) (.agg #[(.int .i64 (imin k2 x1.Lo)), (.int .i64 (imax k3 x1.Hi))]) := shut_Span
          refine lw_op0 rfl rfl (ow_store (X := No) (us := [(.int .i64 (imin k2 x1.Lo)), (.int .i64 (imax k3 x1.Hi))]) (cs' := #[(.int .i64 (imin k2 x1.Lo)), (.int .i64 (imax k3 x1.Hi))]) rfl rfl rfl rfl ho4 (Tryd.sizeOf140 _) rfl rfl rfl rfl hm3 (.inl hg2) rfl hC4 fun w13 ho13 hb13 hl13 hC13 => ?_)
          have hr11 := hr2.go hb13 (fun k hk e => hn2 (hk.trans (congrArg some e))) hl13 (fun _ h => h)
          refine lw_nil ?_
          refine ew_blockN ?_
          refine ew_blockN ?_
          refine ew_then ?_
          refine cw_region ?_
          refine lw_op rfl rfl rfl (ow_move rfl rfl ?_)
          refine lw_op rfl rfl rfl (ow_add rfl rfl rfl ?_)
          refine lw_op rfl rfl rfl (ow_assign rfl rfl ?_)
          refine lw_nil ?_
          refine ew_nxt (y1, y2, (W (k1 + 1)), (imin k2 x1.Lo), (imax k3 x1.Hi)) hb3 fun a ha => ⟨M2, v1, ?_, ((hl3.trans hl4).trans hl13), hC13, hr11, ho13, hm3, hn2⟩
          exact ha.sub ⟨rfl, rfl, rfl, rfl, rfl, trivial⟩
    · obtain rfl := hbb1.trans hc1
      refine cw_false rfl ?_
      refine cw_exit ?_
      refine ew_thenX ?_
      refine ew_thenX ?_
      refine ew_blockX ?_
      refine ew_brk (y1, y2, k1, k2, k3) hb3 fun a ha => ⟨M2, v1, ?_, hl3, hC3, hw1, ho3, hm3, hn2⟩
      exact ha.sub ⟨rfl, rfl, rfl, rfl, rfl, trivial⟩
  · rintro ⟨y3, y4, k4, k5, k6⟩ a w14 hlr2 ⟨M7, v18, hF2, hl14, hC14, hw8, ho14, hm8, hn7⟩
    subst hlr2
    refine ew_at (E := [(0, v0p), (3, (.pointer (some ⟨g1, 0, none⟩))), (5, v18), (6, (.bool y4)), (7, (.int .i64 k4))]) hF2 ?_
    refine ew_then ?_
    refine cw_seq ?_
    refine cw_seq ?_
    refine cw_region ?_
    refine lw_op rfl rfl rfl (ow_move rfl rfl ?_)
    refine lw_op rfl rfl rfl (ow_not rfl rfl ?_)
    refine lw_nil ?_
    refine ew_then ?_
    replace h := cond_some h
    rcases h with ⟨hc5, h⟩ | ⟨hc5, h⟩
    · subst hc5
      refine cw_false rfl ?_
      refine cw_skip ?_
      refine ew_then ?_
      refine cw_seq ?_
      refine cw_region ?_
      refine lw_op rfl rfl rfl (ow_move rfl rfl ?_)
      refine lw_op rfl rfl rfl (ow_assign rfl rfl ?_)
      refine lw_nil ?_
      refine ew_then ?_
      refine cw_ret ?_
      obtain rfl := Option.some.inj h
      exact ew_ret (res1 rfl (.tmp rfl)) ⟨_, rfl, (hw8.freezeBack hC14 hO), hC14.bx⟩
    · subst hc5
      refine cw_true rfl ?_
      refine cw_region ?_
      refine lw_op rfl rfl rfl (ow_move rfl rfl ?_)
      refine lw_op rfl rfl rfl (ow_loadOwnA rfl rfl rfl ho14 (Tryd.isAgg140 _) (Tryd.sizeOf140 _) rfl ?_)
      have hw9 : VRep RSpan w14 M7 ({ Lo := k5, Hi := k6 } : Span) (.agg #[(.int .i64 k5), (.int .i64 k6)]) := shut_Span
      refine lw_op rfl rfl rfl (ow_buildSlice (R := RSpan) (xs := [({ Lo := k5, Hi := k6 } : Span)]) (cs := #[(.int .i64 k5), (.int .i64 k6)]) (e := 140) rfl rfl (by kernel_rfl) rfl rfl ⟨_, _, rfl, hw9.cells, rfl⟩ hC14 fun p8 w15 hw10 hb14 hl15 hC15 => ?_)
      have ho15 := ho14.no hb14
      have hr12 := hw8.no hb14
      replace h := bind_some h
      obtain ⟨z5, hz5, h⟩ := h
      refine lw_op rfl rfl rfl (ow_append (R := RSpan) rfl rfl rfl rfl Tryd.underlying93 hi140 hz140 hs140 hy140 rfl rfl rfl rfl hr12 hw10 hz5 hC15 fun v23 w16 M8 hr13 hb15 hl16 hC16 hM6 hat6 => ?_)
      have hn8 : v23.ownBlock ≠ some g1 := nb_app hn7 hat6 ho15
      have ho16 := ho15.go hb15 (fun e => hn7 e)
      have hm9 := hM6 _ hm8
      refine lw_op rfl rfl rfl (ow_assign rfl rfl ?_)
      refine lw_nil ?_
      refine ew_then ?_
      refine cw_seq ?_
      refine cw_region ?_
      refine lw_op rfl rfl rfl (ow_move rfl rfl ?_)
      refine lw_op rfl rfl rfl (ow_assign rfl rfl ?_)
      refine lw_nil ?_
      refine ew_then ?_
      refine cw_ret ?_
      obtain rfl := Option.some.inj h
      exact ew_ret (res1 rfl (.tmp rfl)) ⟨_, rfl, (hr13.freezeBack hC16 hO), hC16.bx⟩

theorem wo_spec_l1Add {w : World} {M : Nat → Prop} (_hG : ARep (RArr 4 RShape) w M shapes ⟨0, 0, none⟩) (hO : ∀ b, M b → b < w.heap.size) {v0p : Value} {a_list : List Span} (h0 : VRep (RSlice RSpan) w M a_list v0p) {v1p : Value} {a_s : Span} (h1 : VRep RSpan w M a_s v1p) {r : (List Span)} (h : F.spec_l1Add a_list a_s = some r) :
    Calls Tryd.prog 160 [v0p, v1p].toArray w fun e w' => ∃ v, e = .returned v ∧ (∃ M', OwnRow RSpan w.heap.size 140 w' M' r v ∧ Cx No w M w' M') ∧ BX No w w' := by
  obtain ⟨i140, hi140, hz140, hs140, hy140⟩ := info140
  have hC : Cx No w M w M := Cx.start hO (fun _ e => e.elim)
  clear _hG
  refine walk (N := 66) Tryd.func160 rfl Tryd.ntmps160 rfl ?_
  refine cw_seq ?_
  refine cw_region ?_
  obtain rfl := open_Span h1
  refine lw_op rfl rfl rfl (ow_boxOwn rfl rfl hC fun g1 w1 hg1 hg2 ho1 hb1 hl1 hC1 => ?_)
  have hm1 : (Add g1 M) g1 := .inl rfl
  refine lw_op rfl rfl rfl (ow_assign rfl rfl ?_)
  refine lw_nil ?_
  refine ew_then ?_
  refine cw_seq ?_
  refine cw_region ?_
  refine lw_op rfl rfl rfl (ow_buildSlice0 (R := RSpan) (e := 140) rfl (by kernel_rfl) hC1 fun p1 w2 M1 hr1 hb2 hl2 hC2 hM1 hat1 => ?_)
  have hn1 : (Value.ownBlock (.slice (some p1) 0 0)) ≠ some g1 := nb_new (congrArg some hat1) ho1
  have ho2 := ho1.no hb2
  have hm2 := hM1 _ hm1
  refine lw_op rfl rfl rfl (ow_assign rfl rfl ?_)
  refine lw_nil ?_
  refine ew_then ?_
  refine cw_seq ?_
  refine cw_region ?_
  refine lw_op rfl rfl rfl (ow_assign rfl rfl ?_)
  refine lw_nil ?_
  refine ew_then ?_
  refine cw_seq ?_
  refine cw_seq ?_
  refine cw_region ?_
  refine lw_op rfl rfl rfl (ow_assign rfl rfl ?_)
  refine lw_nil ?_
  refine ew_then ?_
  replace h := bind_some h
  obtain ⟨lr1, hlr1, h⟩ := h
  refine cw_for hlr1 (fun s a w' => ∃ (M' : Nat → Prop) (v0c : Value), Fits 66 [(0, v0p), (3, (.pointer (some ⟨g1, 0, none⟩))), (5, v0c), (6, (.bool s.2.1)), (7, (.int .i64 s.2.2.1))] a ∧ Le w2 M1 w' M' ∧ Cx No w M w' M' ∧ OwnRow RSpan w.heap.size 140 w' M' s.1 v0c ∧ Own w' g1 140 #[(.int .i64 s.2.2.2.1), (.int .i64 s.2.2.2.2)] ∧ M' g1 ∧ (Value.ownBlock v0c) ≠ some g1) ?_ ?_ ?_
  · intro a ha
    exact ⟨M1, (.slice (some p1) 0 0), ha.sub ⟨rfl, rfl, rfl, rfl, rfl, trivial⟩, Le.refl _ _, hC2, hr1, ho2, hm2, hn1⟩
  · rintro ⟨y1, y2, k1, k2, k3⟩ a w3 sr1 ⟨M2, v1, hF1, hl3, hC3, hw1, ho3, hm3, hn2⟩ hb3 hR1
    refine cw_at (E := [(0, v0p), (3, (.pointer (some ⟨g1, 0, none⟩))), (5, v1), (6, (.bool y2)), (7, (.int .i64 k1))]) hF1 ?_
    refine cw_seq ?_
    refine cw_seq ?_
    refine cw_region ?_
    refine lw_op rfl rfl rfl (ow_move rfl rfl ?_)
    refine lw_op rfl rfl rfl (ow_move rfl rfl ?_)
    refine lw_op rfl rfl rfl (ow_len rfl rfl (VRep.mono ((hl1.trans hl2).trans hl3) h0) Tryd.underlying93 rfl ?_)
    refine lw_op rfl rfl rfl (ow_lss rfl rfl rfl fun bb1 hbb1 => ?_)
    refine lw_nil ?_
    refine ew_then ?_
    replace hb3 := cond_some hb3
    rcases hb3 with ⟨hc1, hb3⟩ | ⟨hc1, hb3⟩
    · obtain rfl := hbb1.trans hc1
      refine cw_true rfl ?_
      refine cw_skip ?_
      refine ew_then ?_
      refine cw_seq ?_
      refine cw_block ?_
      refine cw_seq ?_
      refine cw_region ?_
      refine lw_op rfl rfl rfl (ow_move rfl rfl ?_)
      refine lw_op rfl rfl rfl (ow_move rfl rfl ?_)
      replace hb3 := bind_some hb3
      obtain ⟨x1, hx1, hb3⟩ := hb3
      refine lw_op rfl rfl rfl (ow_indexSlice (R := RSpan) rfl rfl rfl (VRep.mono ((hl1.trans hl2).trans hl3) h0) Tryd.underlying93 (Tryd.sizeOf140 _) hx1 fun p2 hp2 => ?_)
      refine lw_op rfl rfl rfl (ow_load (R := RSpan) rfl rfl hp2 (Tryd.sizeOf140 _) (Tryd.isAgg140 _) fun v6 hv6 => ?_)
      refine lw_allocStore (R := RSpan) rfl rfl rfl rfl rfl rfl rfl Tryd.zeroValue140 Tryd.sizeOf140 rfl rfl rfl (by simp) hv6 hC3 fun p3 w4 hp3 hb4 hl4 hC4 => ?_
      have ho4 := ho3.no hb4
      have hr2 := hw1.no hb4
      refine lw_nil ?_
      refine ew_then ?_
      refine cw_block ?_
      refine cw_seq ?_
      refine cw_region ?_
      refine lw_op rfl rfl rfl (ow_fieldAddr rfl rfl Tryd.underlying140 rfl (Tryd.sizeOf3 _) ?_)
      refine lw_op rfl rfl rfl (ow_load (R := RInt) rfl rfl (hp3.fld fld_Span_Hi) (Tryd.sizeOf3 _) (Tryd.isAgg3 _) fun v7 hv7 => ?_)
      obtain rfl := vint_eq hv7
      refine lw_op rfl rfl rfl (ow_add rfl rfl rfl ?_)
      refine lw_op rfl rfl rfl (ow_fieldAddr rfl rfl Tryd.underlying140 rfl (Tryd.sizeOf3 _) ?_)
      refine lw_op rfl rfl rfl (ow_loadOwn1 rfl rfl rfl ho4 (Tryd.isAgg3 _) rfl ?_)
      refine lw_op rfl rfl rfl (ow_lss rfl rfl rfl fun bb2 hbb2 => ?_)
      refine lw_op rfl rfl rfl (ow_assign rfl rfl ?_)
      refine lw_nil ?_
      refine ew_then ?_
      replace hb3 := cond_some hb3
      rcases hb3 with ⟨hc2, hb3⟩ | ⟨hc2, hb3⟩
      · obtain rfl := hbb2.trans hc2
        refine cw_true rfl ?_
        refine cw_region ?_
        refine lw_op rfl rfl rfl (ow_move rfl rfl ?_)
        refine lw_op rfl rfl rfl (ow_load (R := RSpan) rfl rfl hp3 (Tryd.sizeOf140 _) (Tryd.isAgg140 _) fun v8 hv8 => ?_)
        obtain rfl := open_Span hv8
        refine lw_op rfl rfl rfl (ow_buildSlice (R := RSpan) (xs := [x1]) (cs := #[(.int .i64 x1.Lo), (.int .i64 x1.Hi)]) (e := 140) rfl rfl (by kernel_rfl) rfl rfl ⟨_, _, rfl, hv8.cells, rfl⟩ hC4 fun p4 w5 hw2 hb5 hl5 hC5 => ?_)
        have ho5 := ho4.no hb5
        have hr3 := hr2.no hb5
        replace hb3 := bind_some hb3
        obtain ⟨z1, hz1, hb3⟩ := hb3
        refine lw_op rfl rfl rfl (ow_append (R := RSpan) rfl rfl rfl rfl Tryd.underlying93 hi140 hz140 hs140 hy140 rfl rfl rfl rfl hr3 hw2 hz1 hC5 fun v9 w6 M3 hr4 hb6 hl6 hC6 hM2 hat2 => ?_)
        have hn3 : v9.ownBlock ≠ some g1 := nb_app hn2 hat2 ho5
        have ho6 := ho5.go hb6 (fun e => hn2 e)
        have hm4 := hM2 _ hm3
        refine lw_op rfl rfl rfl (ow_assign rfl rfl ?_)
        refine lw_nil ?_
        refine ew_blockN ?_
        refine ew_blockN ?_
        refine ew_then ?_
        refine cw_region ?_
        refine lw_op rfl rfl rfl (ow_move rfl rfl ?_)
        refine lw_op rfl rfl rfl (ow_add rfl rfl rfl ?_)
        refine lw_op rfl rfl rfl (ow_assign rfl rfl ?_)
        refine lw_nil ?_
        refine ew_nxt (z1, y2, (W (k1 + 1)), k2, k3) hb3 fun a ha => ⟨M3, v9, ?_, (((hl3.trans hl4).trans hl5).trans hl6), hC6, hr4, ho6, hm4, hn3⟩
        exact ha.sub ⟨rfl, rfl, rfl, rfl, rfl, trivial⟩
      · obtain rfl := hbb2.trans hc2
        refine cw_false rfl ?_
        refine cw_seq ?_
        refine cw_region ?_
        refine lw_op rfl rfl rfl (ow_fieldAddr rfl rfl Tryd.underlying140 rfl (Tryd.sizeOf3 _) ?_)
        refine lw_op rfl rfl rfl (ow_load (R := RInt) rfl rfl (hp3.fld fld_Span_Lo) (Tryd.sizeOf3 _) (Tryd.isAgg3 _) fun v10 hv10 => ?_)
        obtain rfl := vint_eq hv10
        refine lw_op rfl rfl rfl (ow_fieldAddr rfl rfl Tryd.underlying140 rfl (Tryd.sizeOf3 _) ?_)
        refine lw_op rfl rfl rfl (ow_loadOwn1 rfl rfl rfl ho4 (Tryd.isAgg3 _) rfl ?_)
        refine lw_op rfl rfl rfl (ow_add rfl rfl rfl ?_)
        refine lw_op rfl rfl rfl (ow_gtr rfl rfl rfl fun bb3 hbb3 => ?_)
        refine lw_op rfl rfl rfl (ow_assign rfl rfl ?_)
        refine lw_nil ?_
        refine ew_then ?_
        replace hb3 := cond_some hb3
        rcases hb3 with ⟨hc3, hb3⟩ | ⟨hc3, hb3⟩
        · obtain rfl := hbb3.trans hc3
          refine cw_true rfl ?_
          refine cw_seq ?_
          refine cw_seq ?_
          refine cw_region ?_
          refine lw_op rfl rfl rfl (ow_move rfl rfl ?_)
          refine lw_op rfl rfl rfl (ow_not rfl rfl ?_)
          refine lw_nil ?_
          refine ew_then ?_
          replace hb3 := cond_some hb3
          rcases hb3 with ⟨hc4, hb3⟩ | ⟨hc4, hb3⟩
          · subst hc4
            refine cw_false rfl ?_
            refine cw_skip ?_
            refine ew_then ?_
            refine cw_region ?_
            refine lw_op rfl rfl rfl (ow_move rfl rfl ?_)
            refine lw_op rfl rfl rfl (ow_load (R := RSpan) rfl rfl hp3 (Tryd.sizeOf140 _) (Tryd.isAgg140 _) fun v11 hv11 => ?_)
            obtain rfl := open_Span hv11
            refine lw_op rfl rfl rfl (ow_buildSlice (R := RSpan) (xs := [x1]) (cs := #[(.int .i64 x1.Lo), (.int .i64 x1.Hi)]) (e := 140) rfl rfl (by kernel_rfl) rfl rfl ⟨_, _, rfl, hv11.cells, rfl⟩ hC4 fun p5 w7 hw3 hb7 hl7 hC7 => ?_)
            have ho7 := ho4.no hb7
            have hr5 := hr2.no hb7
            replace hb3 := bind_some hb3
            obtain ⟨z2, hz2, hb3⟩ := hb3
            refine lw_op rfl rfl rfl (ow_append (R := RSpan) rfl rfl rfl rfl Tryd.underlying93 hi140 hz140 hs140 hy140 rfl rfl rfl rfl hr5 hw3 hz2 hC7 fun v12 w8 M4 hr6 hb8 hl8 hC8 hM3 hat3 => ?_)
            have hn4 : v12.ownBlock ≠ some g1 := nb_app hn2 hat3 ho7
            have ho8 := ho7.go hb8 (fun e => hn2 e)
            have hm5 := hM3 _ hm3
            refine lw_op rfl rfl rfl (ow_assign rfl rfl ?_)
            refine lw_nil ?_
            refine ew_blockN ?_
            refine ew_blockN ?_
            refine ew_then ?_
            refine cw_region ?_
            refine lw_op rfl rfl rfl (ow_move rfl rfl ?_)
            refine lw_op rfl rfl rfl (ow_add rfl rfl rfl ?_)
            refine lw_op rfl rfl rfl (ow_assign rfl rfl ?_)
            refine lw_nil ?_
            refine ew_nxt (z2, true, (W (k1 + 1)), k2, k3) hb3 fun a ha => ⟨M4, v12, ?_, (((hl3.trans hl4).trans hl7).trans hl8), hC8, hr6, ho8, hm5, hn4⟩
            exact ha.sub ⟨rfl, rfl, rfl, rfl, rfl, trivial⟩
          · subst hc4
            refine cw_true rfl ?_
            refine cw_seq ?_
            refine cw_region ?_
            refine lw_op rfl rfl rfl (ow_move rfl rfl ?_)
            refine lw_op rfl rfl rfl (ow_loadOwnA rfl rfl rfl ho4 (Tryd.isAgg140 _) (Tryd.sizeOf140 _) rfl ?_)
            have hw4 : VRep RSpan w4 M2 ({ Lo := k2, Hi := k3 } : Span) (.agg #[(.int .i64 k2), (.int .i64 k3)]) := shut_Span
            refine lw_op rfl rfl rfl (ow_buildSlice (R := RSpan) (xs := [({ Lo := k2, Hi := k3 } : Span)]) (cs := #[(.int .i64 k2), (.int .i64 k3)]) (e := 140) rfl rfl (by kernel_rfl) rfl rfl ⟨_, _, rfl, hw4.cells, rfl⟩ hC4 fun p6 w9 hw5 hb9 hl9 hC9 => ?_)
            have ho9 := ho4.no hb9
            have hr7 := hr2.no hb9
            replace hb3 := bind_some hb3
            obtain ⟨z3, hz3, hb3⟩ := hb3
            refine lw_op rfl rfl rfl (ow_append (R := RSpan) rfl rfl rfl rfl Tryd.underlying93 hi140 hz140 hs140 hy140 rfl rfl rfl rfl hr7 hw5 hz3 hC9 fun v13 w10 M5 hr8 hb10 hl10 hC10 hM4 hat4 => ?_)
            have hn5 : v13.ownBlock ≠ some g1 := nb_app hn2 hat4 ho9
            have ho10 := ho9.go hb10 (fun e => hn2 e)
            have hm6 := hM4 _ hm3
            refine lw_op rfl rfl rfl (ow_assign rfl rfl ?_)
            refine lw_nil ?_
            refine ew_then ?_
            refine cw_region ?_
            refine lw_op rfl rfl rfl (ow_assign rfl rfl ?_)
            refine lw_nil ?_
            refine ew_then ?_
            refine cw_region ?_
            refine lw_op rfl rfl rfl (ow_move rfl rfl ?_)
            refine lw_op rfl rfl rfl (ow_load (R := RSpan) rfl rfl (ARep.mono (hl9.trans hl10) hp3) (Tryd.sizeOf140 _) (Tryd.isAgg140 _) fun v14 hv14 => ?_)
            obtain rfl := open_Span hv14
            refine lw_op rfl rfl rfl (ow_buildSlice (R := RSpan) (xs := [x1]) (cs := #[(.int .i64 x1.Lo), (.int .i64 x1.Hi)]) (e := 140) rfl rfl (by kernel_rfl) rfl rfl ⟨_, _, rfl, hv14.cells, rfl⟩ hC10 fun p7 w11 hw6 hb11 hl11 hC11 => ?_)
            have ho11 := ho10.no hb11
            have hr9 := hr8.no hb11
            replace hb3 := bind_some hb3
            obtain ⟨z4, hz4, hb3⟩ := hb3
            refine lw_op rfl rfl rfl (ow_append (R := RSpan) rfl rfl rfl rfl Tryd.underlying93 hi140 hz140 hs140 hy140 rfl rfl rfl rfl hr9 hw6 hz4 hC11 fun v15 w12 M6 hr10 hb12 hl12 hC12 hM5 hat5 => ?_)
            have hn6 : v15.ownBlock ≠ some g1 := nb_app hn5 hat5 ho11
            have ho12 := ho11.go hb12 (fun e => hn5 e)
            have hm7 := hM5 _ hm6
            refine lw_op rfl rfl rfl (ow_assign rfl rfl ?_)
            refine lw_nil ?_
            refine ew_blockN ?_
            refine ew_blockN ?_
            refine ew_then ?_
            refine cw_region ?_
            refine lw_op rfl rfl rfl (ow_move rfl rfl ?_)
            refine lw_op rfl rfl rfl (ow_add rfl rfl rfl ?_)
            refine lw_op rfl rfl rfl (ow_assign rfl rfl ?_)
            refine lw_nil ?_
            refine ew_nxt (z4, true, (W (k1 + 1)), k2, k3) hb3 fun a ha => ⟨M6, v15, ?_, (((((hl3.trans hl4).trans hl9).trans hl10).trans hl11).trans hl12), hC12, hr10, ho12, hm7, hn6⟩
            exact ha.sub ⟨rfl, rfl, rfl, rfl, rfl, trivial⟩
        · obtain rfl := hbb3.trans hc3
          refine cw_false rfl ?_
          refine cw_region ?_
          refine lw_op rfl rfl rfl (ow_fieldAddr rfl rfl Tryd.underlying140 rfl (Tryd.sizeOf3 _) ?_)
          refine lw_op rfl rfl rfl (ow_loadOwn1 rfl rfl rfl ho4 (Tryd.isAgg3 _) rfl ?_)
          refine lw_op rfl rfl rfl (ow_fieldAddr rfl rfl Tryd.underlying140 rfl (Tryd.sizeOf3 _) ?_)
          refine lw_op rfl rfl rfl (ow_load (R := RInt) rfl rfl (hp3.fld fld_Span_Lo) (Tryd.sizeOf3 _) (Tryd.isAgg3 _) fun v16 hv16 => ?_)
          obtain rfl := vint_eq hv16
          refine lw_op rfl rfl rfl (ow_min rfl rfl rfl ?_)
          refine lw_op rfl rfl rfl (ow_fieldAddr rfl rfl Tryd.underlying140 rfl (Tryd.sizeOf3 _) ?_)
          refine lw_op rfl rfl rfl (ow_loadOwn1 rfl rfl rfl ho4 (Tryd.isAgg3 _) rfl ?_)
          refine lw_op rfl rfl rfl (ow_fieldAddr rfl rfl Tryd.underlying140 rfl (Tryd.sizeOf3 _) ?_)
          refine lw_op rfl rfl rfl (ow_load (R := RInt) rfl rfl (hp3.fld fld_Span_Hi) (Tryd.sizeOf3 _) (Tryd.isAgg3 _) fun v17 hv17 => ?_)
          obtain rfl := vint_eq hv17
          refine lw_op rfl rfl rfl (ow_max rfl rfl rfl ?_)
          refine lw_op rfl rfl rfl (ow_build (v := .agg #[(.int .i64 (imin k2 x1.Lo)), (.int .i64 (imax k3 x1.Hi))]) rfl rfl (by kernel_rfl) ?_)
          have hw7 : VRep RSpan w4 M2 ({ Lo := (imin k2 x1.Lo), Hi := (imax k3 x1.Hi) } : Span) (.agg #[(.int .i64 (imin k2 x1.Lo)), (.int .i64 (imax k3 x1.Hi))]) := shut_Span
          refine lw_op0 rfl rfl (ow_store (X := No) (us := [(.int .i64 (imin k2 x1.Lo)), (.int .i64 (imax k3 x1.Hi))]) (cs' := #[(.int .i64 (imin k2 x1.Lo)), (.int .i64 (imax k3 x1.Hi))]) rfl rfl rfl rfl ho4 (Tryd.sizeOf140 _) rfl rfl rfl rfl hm3 (.inl hg2) rfl hC4 fun w13 ho13 hb13 hl13 hC13 => ?_)
          have hr11 := hr2.go hb13 (fun k hk e => hn2 (hk.trans (congrArg some e))) hl13 (fun _ h => h)
          refine lw_nil ?_
          refine ew_blockN ?_
          refine ew_blockN ?_
          refine ew_then ?_
          refine cw_region ?_
          refine lw_op rfl rfl rfl (ow_move rfl rfl ?_)
          refine lw_op rfl rfl rfl (ow_add rfl rfl rfl ?_)
          refine lw_op rfl rfl rfl (ow_assign rfl rfl ?_)
          refine lw_nil ?_
          refine ew_nxt (y1, y2, (W (k1 + 1)), (imin k2 x1.Lo), (imax k3 x1.Hi)) hb3 fun a ha => ⟨M2, v1, ?_, ((hl3.trans hl4).trans hl13), hC13, hr11, ho13, hm3, hn2⟩
          exact ha.sub ⟨rfl, rfl, rfl, rfl, rfl, trivial⟩
    · obtain rfl := hbb1.trans hc1
      refine cw_false rfl ?_
      refine cw_exit ?_
      refine ew_thenX ?_
      refine ew_thenX ?_
      refine ew_blockX ?_
      refine ew_brk (y1, y2, k1, k2, k3) hb3 fun a ha => ⟨M2, v1, ?_, hl3, hC3, hw1, ho3, hm3, hn2⟩
      exact ha.sub ⟨rfl, rfl, rfl, rfl, rfl, trivial⟩
  · rintro ⟨y3, y4, k4, k5, k6⟩ a w14 hlr2 ⟨M7, v18, hF2, hl14, hC14, hw8, ho14, hm8, hn7⟩
    subst hlr2
    refine ew_at (E := [(0, v0p), (3, (.pointer (some ⟨g1, 0, none⟩))), (5, v18), (6, (.bool y4)), (7, (.int .i64 k4))]) hF2 ?_
    refine ew_then ?_
    refine cw_seq ?_
    refine cw_seq ?_
    refine cw_region ?_
    refine lw_op rfl rfl rfl (ow_move rfl rfl ?_)
    refine lw_op rfl rfl rfl (ow_not rfl rfl ?_)
    refine lw_nil ?_
    refine ew_then ?_
    replace h := cond_some h
    rcases h with ⟨hc5, h⟩ | ⟨hc5, h⟩
    · subst hc5
      refine cw_false rfl ?_
      refine cw_skip ?_
      refine ew_then ?_
      refine cw_seq ?_
      refine cw_region ?_
      refine lw_op rfl rfl rfl (ow_move rfl rfl ?_)
      refine lw_op rfl rfl rfl (ow_assign rfl rfl ?_)
      refine lw_nil ?_
      refine ew_then ?_
      refine cw_ret ?_
      obtain rfl := Option.some.inj h
      exact ew_ret (res1 rfl (.tmp rfl)) ⟨_, rfl, ⟨M7, hw8, hC14⟩, hC14.bx⟩
    · subst hc5
      refine cw_true rfl ?_
      refine cw_region ?_
      refine lw_op rfl rfl rfl (ow_move rfl rfl ?_)
      refine lw_op rfl rfl rfl (ow_loadOwnA rfl rfl rfl ho14 (Tryd.isAgg140 _) (Tryd.sizeOf140 _) rfl ?_)
      have hw9 : VRep RSpan w14 M7 ({ Lo := k5, Hi := k6 } : Span) (.agg #[(.int .i64 k5), (.int .i64 k6)]) := shut_Span
      refine lw_op rfl rfl rfl (ow_buildSlice (R := RSpan) (xs := [({ Lo := k5, Hi := k6 } : Span)]) (cs := #[(.int .i64 k5), (.int .i64 k6)]) (e := 140) rfl rfl (by kernel_rfl) rfl rfl ⟨_, _, rfl, hw9.cells, rfl⟩ hC14 fun p8 w15 hw10 hb14 hl15 hC15 => ?_)
      have ho15 := ho14.no hb14
      have hr12 := hw8.no hb14
      replace h := bind_some h
      obtain ⟨z5, hz5, h⟩ := h
      refine lw_op rfl rfl rfl (ow_append (R := RSpan) rfl rfl rfl rfl Tryd.underlying93 hi140 hz140 hs140 hy140 rfl rfl rfl rfl hr12 hw10 hz5 hC15 fun v23 w16 M8 hr13 hb15 hl16 hC16 hM6 hat6 => ?_)
      have hn8 : v23.ownBlock ≠ some g1 := nb_app hn7 hat6 ho15
      have ho16 := ho15.go hb15 (fun e => hn7 e)
      have hm9 := hM6 _ hm8
      refine lw_op rfl rfl rfl (ow_assign rfl rfl ?_)
      refine lw_nil ?_
      refine ew_then ?_
      refine cw_seq ?_
      refine cw_region ?_
      refine lw_op rfl rfl rfl (ow_move rfl rfl ?_)
      refine lw_op rfl rfl rfl (ow_assign rfl rfl ?_)
      refine lw_nil ?_
      refine ew_then ?_
      refine cw_ret ?_
      obtain rfl := Option.some.inj h
      exact ew_ret (res1 rfl (.tmp rfl)) ⟨_, rfl, ⟨M8, hr13, hC16⟩, hC16.bx⟩

theorem w_spec_SpansOf {w : World} {M : Nat → Prop} (hG : ARep (RArr 4 RShape) w M shapes ⟨0, 0, none⟩) (hO : ∀ b, M b → b < w.heap.size) {v0p : Value} {a_list : List Span} (h0 : VRep (RSlice RSpan) w M a_list v0p) {a_top : Int} {r : (List Span)} (h : F.spec_SpansOf a_list a_top = some r) :
    Calls Tryd.prog 154 [v0p, (.int .i64 a_top)].toArray w fun e w' => ∃ v, e = .returned v ∧ VRep (RSlice RSpan) w' M r v ∧ BX No w w' := by
  have hC : Cx No w M w M := Cx.start hO (fun _ e => e.elim)
  refine walk (N := 53) Tryd.func154 rfl Tryd.ntmps154 rfl ?_
  refine cw_seq ?_
  refine cw_region ?_
  refine lw_op rfl rfl rfl (ow_assign rfl rfl ?_)
  refine lw_nil ?_
  refine ew_then ?_
  refine cw_seq ?_
  refine cw_region ?_
  refine lw_op rfl rfl rfl (ow_buildSlice0I (R := RSpan) (e := 140) rfl (by kernel_rfl) hC fun p1 w1 hw1 hb1 hl1 hC1 => ?_)
  refine lw_op rfl rfl rfl (ow_assign rfl rfl ?_)
  refine lw_nil ?_
  refine ew_then ?_
  refine cw_seq ?_
  refine cw_seq ?_
  refine cw_region ?_
  refine lw_op rfl rfl rfl (ow_move rfl rfl ?_)
  replace h := bind_some h
  obtain ⟨x1, hx1, h⟩ := h
  refine lw_op rfl rfl rfl (ow_call rfl rfl Tryd.call83 (w_spec_l1In (hG.mono hl1) hC1.old hx1) fun v1 w2 hv1 => ?_)
  obtain ⟨hv1, hb2⟩ := hv1
  have hl2 := Le.no M hb2
  have hC2 := hC1.no hb2
  obtain rfl := vbool_eq hv1
  refine lw_op rfl rfl rfl (ow_not rfl rfl ?_)
  refine lw_op rfl rfl rfl (ow_move rfl rfl ?_)
  replace h := cond_some h
  rcases h with ⟨hc1, h⟩ | ⟨hc1, h⟩
  · subst hc1
    refine lw_on rfl rfl rfl rfl rfl rfl (ow_move rfl rfl ?_)
    refine lw_on rfl rfl rfl rfl rfl rfl (ow_len rfl rfl (VRep.mono (hl1.trans hl2) h0) Tryd.underlying93 rfl ?_)
    refine lw_on rfl rfl rfl rfl rfl rfl (ow_gtr rfl rfl rfl fun bb1 hbb1 => ?_)
    refine lw_op rfl rfl rfl (ow_pickF rfl rfl rfl ?_)
    refine lw_nil ?_
    refine ew_then ?_
    replace h := cond_some h
    rcases h with ⟨hc2, h⟩ | ⟨hc2, h⟩
    · obtain rfl := hbb1.trans hc2
      refine cw_true rfl ?_
      refine cw_seq ?_
      refine cw_region ?_
      refine lw_op rfl rfl rfl (ow_move rfl rfl ?_)
      refine lw_op rfl rfl rfl (ow_assign rfl rfl ?_)
      refine lw_nil ?_
      refine ew_then ?_
      refine cw_ret ?_
      refine ew_thenR ?_
      obtain rfl := Option.some.inj h
      exact ew_ret (res1 rfl (.tmp rfl)) ⟨_, rfl, (VRep.mono hC2.back (VRep.mono hl2 hw1)), hC2.bx⟩
    · obtain rfl := hbb1.trans hc2
      refine cw_false rfl ?_
      refine cw_skip ?_
      refine ew_then ?_
      refine cw_seq ?_
      refine cw_seq ?_
      refine cw_region ?_
      refine lw_op rfl rfl rfl (ow_assign rfl rfl ?_)
      refine lw_nil ?_
      refine ew_then ?_
      replace h := bind_some h
      obtain ⟨lr1, hlr1, h⟩ := h
      refine cw_for hlr1 (fun s a w' => ∃ (M' : Nat → Prop) (v0c : Value), Fits 53 [(0, v0p), (1, (.int .i64 a_top)), (5, v0c), (6, (.int .i64 s.2))] a ∧ Le w2 M w' M' ∧ Cx No w M w' M' ∧ VRep (RSlice RSpan) w' M' s.1 v0c) ?_ ?_ ?_
      · intro a ha
        exact ⟨M, (.slice (some p1) 0 0), ha.sub ⟨rfl, rfl, rfl, rfl, trivial⟩, Le.refl _ _, hC2, (VRep.mono hl2 hw1)⟩
      · rintro ⟨y1, k1⟩ a w3 sr1 ⟨M1, v2, hF1, hl3, hC3, hw2⟩ hb3 hR1
        refine cw_at (E := [(0, v0p), (1, (.int .i64 a_top)), (5, v2), (6, (.int .i64 k1))]) hF1 ?_
        refine cw_seq ?_
        refine cw_seq ?_
        refine cw_region ?_
        refine lw_op rfl rfl rfl (ow_move rfl rfl ?_)
        refine lw_op rfl rfl rfl (ow_move rfl rfl ?_)
        refine lw_op rfl rfl rfl (ow_len rfl rfl (VRep.mono ((hl1.trans hl2).trans hl3) h0) Tryd.underlying93 rfl ?_)
        refine lw_op rfl rfl rfl (ow_lss rfl rfl rfl fun bb2 hbb2 => ?_)
        refine lw_nil ?_
        refine ew_then ?_
        replace hb3 := cond_some hb3
        rcases hb3 with ⟨hc3, hb3⟩ | ⟨hc3, hb3⟩
        · obtain rfl := hbb2.trans hc3
          refine cw_true rfl ?_
          refine cw_skip ?_
          refine ew_then ?_
          refine cw_seq ?_
          refine cw_block ?_
          refine cw_seq ?_
          refine cw_seq ?_
          replace hb3 := bind_some hb3
          obtain ⟨x2, hx2, hb3⟩ := hb3
          replace hb3 := bind_some hb3
          obtain ⟨x3, hx3, hb3⟩ := hb3
          replace hb3 := cond_some hb3
          rcases hb3 with ⟨hc4, hb3⟩ | ⟨hc4, hb3⟩
          · subst hc4
            refine cw_sub (E' := [(0, v0p), (1, (.int .i64 a_top)), (5, v2), (6, (.int .i64 k1))]) ⟨rfl, rfl, rfl, rfl, trivial⟩ ?_
            refine cw_drawQ 19 [PV (RSlice RSpan) M1 a_list, PEq (.int .i64 k1), PA RSpan M1 x2, PA RInt M1 x2.Lo, PEq (.int .i64 x2.Lo), PV (RSlice RSpan) M1 a_list, PEq (.int .i64 k1), PA RSpan M1 x2, PA RInt M1 x2.Hi, PEq (.int .i64 x2.Hi), PEq (.bool true), PEq (.bool false), PEq (.bool false), PV (RSlice RSpan) M1 a_list, PEq (.int .i64 k1), PA RSpan M1 x2, PA RInt M1 x2.Hi, PEq (.int .i64 x2.Hi), PEq (.int .i64 a_top)] (by kernel_rfl) rfl (by kernel_rfl) ⟨PV.mono _ _ _, PEq.mono _, PA.mono _ _ _, PA.mono _ _ _, PEq.mono _, PV.mono _ _ _, PEq.mono _, PA.mono _ _ _, PA.mono _ _ _, PEq.mono _, PEq.mono _, PEq.mono _, PEq.mono _, PV.mono _ _ _, PEq.mono _, PA.mono _ _ _, PA.mono _ _ _, PEq.mono _, PEq.mono _, trivial⟩ ⟨?_, ?_, ?_, ?_, ?_, ?_, ?_, ?_, ?_, ?_, ?_, ?_, ?_, ?_, ?_, ?_, ?_, ?_, ?_, trivial⟩ ?_
            · intro w5 D hS1 hd1
              have hl5 := Le.no M1 hS1
              have hC5 := hC3.no hS1
              refine dg_sub (E' := [(0, v0p)]) ⟨rfl, trivial⟩ ?_
              refine dg_plain rfl (ow_move rfl rfl ?_)
              exact ⟨BX.refl _ _, (VRep.mono (((hl1.trans hl2).trans hl3).trans hl5) h0)⟩
            · intro w6 D hS2 hd2
              have hl6 := Le.no M1 hS2
              have hC6 := hC3.no hS2
              refine dg_sub (E' := [(6, (.int .i64 k1))]) ⟨rfl, trivial⟩ ?_
              refine dg_plain rfl (ow_move rfl rfl ?_)
              exact ⟨BX.refl _ _, rfl⟩
            · intro w7 D hS3 hd3
              have hl7 := Le.no M1 hS3
              have hC7 := hC3.no hS3
              have hd3 : PV (RSlice RSpan) M1 a_list (D 0) w7 ∧ PEq (.int .i64 k1) (D 1) w7 ∧ True := hd3
              obtain ⟨d1, d2, -⟩ := hd3
              obtain ⟨v8, hq1⟩ : ∃ v, (D 0) = v := ⟨_, rfl⟩
              rw [hq1] at d1
              refine dg_sub (E' := [(23, v8), (24, (.int .i64 k1))]) ⟨(congrArg some hq1), (congrArg some d2), trivial⟩ ?_
              refine dg_plain rfl (ow_indexSlice (R := RSpan) rfl rfl rfl d1 Tryd.underlying93 (Tryd.sizeOf140 _) hx2 fun p5 hp5 => ?_)
              exact ⟨BX.refl _ _, ⟨_, rfl, hp5⟩⟩
            · intro w8 D hS4 hd4
              have hl8 := Le.no M1 hS4
              have hC8 := hC3.no hS4
              have hd4 : PA RSpan M1 x2 (D 2) w8 ∧ True := hd4
              obtain ⟨d3, -⟩ := hd4
              obtain ⟨p6, e1, ha1⟩ := d3
              refine dg_sub (E' := [(25, (.pointer (some p6)))]) ⟨(congrArg some e1), trivial⟩ ?_
              refine dg_plain rfl (ow_fieldAddr rfl rfl Tryd.underlying140 rfl (Tryd.sizeOf3 _) ?_)
              exact ⟨BX.refl _ _, ⟨_, rfl, (ha1.fld fld_Span_Lo)⟩⟩
            · intro w9 D hS5 hd5
              have hl9 := Le.no M1 hS5
              have hC9 := hC3.no hS5
              have hd5 : PA RInt M1 x2.Lo (D 3) w9 ∧ True := hd5
              obtain ⟨d4, -⟩ := hd5
              obtain ⟨p7, e2, ha2⟩ := d4
              refine dg_sub (E' := [(26, (.pointer (some p7)))]) ⟨(congrArg some e2), trivial⟩ ?_
              refine dg_plain rfl (ow_load (R := RInt) rfl rfl ha2 (Tryd.sizeOf3 _) (Tryd.isAgg3 _) fun v9 hv9 => ?_)
              obtain rfl := vint_eq hv9
              exact ⟨BX.refl _ _, rfl⟩
            · intro w10 D hS6 hd6
              have hl10 := Le.no M1 hS6
              have hC10 := hC3.no hS6
              refine dg_sub (E' := [(0, v0p)]) ⟨rfl, trivial⟩ ?_
              refine dg_plain rfl (ow_move rfl rfl ?_)
              exact ⟨BX.refl _ _, (VRep.mono (((hl1.trans hl2).trans hl3).trans hl10) h0)⟩
            · intro w11 D hS7 hd7
              have hl11 := Le.no M1 hS7
              have hC11 := hC3.no hS7
              refine dg_sub (E' := [(6, (.int .i64 k1))]) ⟨rfl, trivial⟩ ?_
              refine dg_plain rfl (ow_move rfl rfl ?_)
              exact ⟨BX.refl _ _, rfl⟩
            · intro w12 D hS8 hd8
              have hl12 := Le.no M1 hS8
              have hC12 := hC3.no hS8
              have hd8 : PV (RSlice RSpan) M1 a_list (D 5) w12 ∧ PEq (.int .i64 k1) (D 6) w12 ∧ True := hd8
              obtain ⟨d5, d6, -⟩ := hd8
              obtain ⟨v10, hq2⟩ : ∃ v, (D 5) = v := ⟨_, rfl⟩
              rw [hq2] at d5
              refine dg_sub (E' := [(28, v10), (29, (.int .i64 k1))]) ⟨(congrArg some hq2), (congrArg some d6), trivial⟩ ?_
              refine dg_plain rfl (ow_indexSlice (R := RSpan) rfl rfl rfl d5 Tryd.underlying93 (Tryd.sizeOf140 _) hx2 fun p8 hp8 => ?_)
              exact ⟨BX.refl _ _, ⟨_, rfl, hp8⟩⟩
            · intro w13 D hS9 hd9
              have hl13 := Le.no M1 hS9
              have hC13 := hC3.no hS9
              have hd9 : PA RSpan M1 x2 (D 7) w13 ∧ True := hd9
              obtain ⟨d7, -⟩ := hd9
              obtain ⟨p9, e3, ha3⟩ := d7
              refine dg_sub (E' := [(30, (.pointer (some p9)))]) ⟨(congrArg some e3), trivial⟩ ?_
              refine dg_plain rfl (ow_fieldAddr rfl rfl Tryd.underlying140 rfl (Tryd.sizeOf3 _) ?_)
              exact ⟨BX.refl _ _, ⟨_, rfl, (ha3.fld fld_Span_Hi)⟩⟩
            · intro w14 D hS10 hd10
              have hl14 := Le.no M1 hS10
              have hC14 := hC3.no hS10
              have hd10 : PA RInt M1 x2.Hi (D 8) w14 ∧ True := hd10
              obtain ⟨d8, -⟩ := hd10
              obtain ⟨p10, e4, ha4⟩ := d8
              refine dg_sub (E' := [(31, (.pointer (some p10)))]) ⟨(congrArg some e4), trivial⟩ ?_
              refine dg_plain rfl (ow_load (R := RInt) rfl rfl ha4 (Tryd.sizeOf3 _) (Tryd.isAgg3 _) fun v11 hv11 => ?_)
              obtain rfl := vint_eq hv11
              exact ⟨BX.refl _ _, rfl⟩
            · intro w15 D hS11 hd11
              have hl15 := Le.no M1 hS11
              have hC15 := hC3.no hS11
              have hd11 : PEq (.int .i64 x2.Lo) (D 4) w15 ∧ PEq (.int .i64 x2.Hi) (D 9) w15 ∧ True := hd11
              obtain ⟨d9, d10, -⟩ := hd11
              refine dg_sub (E' := [(27, (.int .i64 x2.Lo)), (32, (.int .i64 x2.Hi))]) ⟨(congrArg some d9), (congrArg some d10), trivial⟩ ?_
              refine dg_plain rfl (ow_call rfl rfl Tryd.call83 (w_spec_l1In (hG.mono (((hl1.trans hl2).trans hl3).trans hl15)) hC15.old hx3) fun v12 w16 hv12 => ?_)
              obtain ⟨hv12, hb5⟩ := hv12
              have hl16 := Le.no M1 hb5
              have hC16 := hC15.no hb5
              obtain rfl := vbool_eq hv12
              exact ⟨hb5, rfl⟩
            · intro w17 D hS12 hd12
              have hl17 := Le.no M1 hS12
              have hC17 := hC3.no hS12
              have hd12 : PEq (.bool true) (D 10) w17 ∧ True := hd12
              obtain ⟨d11, -⟩ := hd12
              refine dg_sub (E' := [(33, (.bool true))]) ⟨(congrArg some d11), trivial⟩ ?_
              refine dg_plain rfl (ow_not rfl rfl ?_)
              exact ⟨BX.refl _ _, rfl⟩
            · intro w18 D hS13 hd13
              have hl18 := Le.no M1 hS13
              have hC18 := hC3.no hS13
              have hd13 : PEq (.bool false) (D 11) w18 ∧ PEq (.bool true) (D 10) w18 ∧ True := hd13
              obtain ⟨d12, d13, -⟩ := hd13
              refine dg_sub (E' := [(34, (.bool false))]) ⟨(congrArg some d12), trivial⟩ ?_
              refine dg_plain rfl (ow_move rfl rfl ?_)
              exact ⟨BX.refl _ _, rfl⟩
            · intro w19 D hS14 hd14
              have hl19 := Le.no M1 hS14
              have hC19 := hC3.no hS14
              have hd14 : PEq (.bool false) (D 12) w19 ∧ True := hd14
              obtain ⟨d14, -⟩ := hd14
              refine dg_sub (E' := [(35, (.bool false)), (0, v0p)]) ⟨(congrArg some d14), rfl, trivial⟩ ?_
              refine dg_on rfl rfl rfl rfl (ow_move rfl rfl ?_)
              exact ⟨BX.refl _ _, (VRep.mono (((hl1.trans hl2).trans hl3).trans hl19) h0)⟩
            · intro w20 D hS15 hd15
              have hl20 := Le.no M1 hS15
              have hC20 := hC3.no hS15
              have hd15 : PEq (.bool false) (D 12) w20 ∧ True := hd15
              obtain ⟨d15, -⟩ := hd15
              refine dg_sub (E' := [(35, (.bool false)), (6, (.int .i64 k1))]) ⟨(congrArg some d15), rfl, trivial⟩ ?_
              refine dg_on rfl rfl rfl rfl (ow_move rfl rfl ?_)
              exact ⟨BX.refl _ _, rfl⟩
            · intro w21 D hS16 hd16
              have hl21 := Le.no M1 hS16
              have hC21 := hC3.no hS16
              have hd16 : PV (RSlice RSpan) M1 a_list (D 13) w21 ∧ PEq (.int .i64 k1) (D 14) w21 ∧ PEq (.bool false) (D 12) w21 ∧ True := hd16
              obtain ⟨d16, d17, d18, -⟩ := hd16
              obtain ⟨v13, hq3⟩ : ∃ v, (D 13) = v := ⟨_, rfl⟩
              rw [hq3] at d16
              refine dg_sub (E' := [(36, v13), (37, (.int .i64 k1)), (35, (.bool false))]) ⟨(congrArg some hq3), (congrArg some d17), (congrArg some d18), trivial⟩ ?_
              refine dg_on rfl rfl rfl rfl (ow_indexSlice (R := RSpan) rfl rfl rfl d16 Tryd.underlying93 (Tryd.sizeOf140 _) hx2 fun p11 hp11 => ?_)
              exact ⟨BX.refl _ _, ⟨_, rfl, hp11⟩⟩
            · intro w22 D hS17 hd17
              have hl22 := Le.no M1 hS17
              have hC22 := hC3.no hS17
              have hd17 : PA RSpan M1 x2 (D 15) w22 ∧ PEq (.bool false) (D 12) w22 ∧ True := hd17
              obtain ⟨d19, d20, -⟩ := hd17
              obtain ⟨p12, e5, ha5⟩ := d19
              refine dg_sub (E' := [(38, (.pointer (some p12))), (35, (.bool false))]) ⟨(congrArg some e5), (congrArg some d20), trivial⟩ ?_
              refine dg_on rfl rfl rfl rfl (ow_fieldAddr rfl rfl Tryd.underlying140 rfl (Tryd.sizeOf3 _) ?_)
              exact ⟨BX.refl _ _, ⟨_, rfl, (ha5.fld fld_Span_Hi)⟩⟩
            · intro w23 D hS18 hd18
              have hl23 := Le.no M1 hS18
              have hC23 := hC3.no hS18
              have hd18 : PA RInt M1 x2.Hi (D 16) w23 ∧ PEq (.bool false) (D 12) w23 ∧ True := hd18
              obtain ⟨d21, d22, -⟩ := hd18
              obtain ⟨p13, e6, ha6⟩ := d21
              refine dg_sub (E' := [(39, (.pointer (some p13))), (35, (.bool false))]) ⟨(congrArg some e6), (congrArg some d22), trivial⟩ ?_
              refine dg_on rfl rfl rfl rfl (ow_load (R := RInt) rfl rfl ha6 (Tryd.sizeOf3 _) (Tryd.isAgg3 _) fun v14 hv14 => ?_)
              obtain rfl := vint_eq hv14
              exact ⟨BX.refl _ _, rfl⟩
            · intro w24 D hS19 hd19
              have hl24 := Le.no M1 hS19
              have hC24 := hC3.no hS19
              have hd19 : PEq (.bool false) (D 12) w24 ∧ True := hd19
              obtain ⟨d23, -⟩ := hd19
              refine dg_sub (E' := [(35, (.bool false)), (1, (.int .i64 a_top))]) ⟨(congrArg some d23), rfl, trivial⟩ ?_
              refine dg_on rfl rfl rfl rfl (ow_move rfl rfl ?_)
              exact ⟨BX.refl _ _, rfl⟩
            · intro w25 D hS20 hd20
              have hl25 := Le.no M1 hS20
              have hC25 := hC3.no hS20
              have hd20 : PV (RSlice RSpan) M1 a_list (D 0) w25 ∧ PEq (.int .i64 k1) (D 1) w25 ∧ PA RSpan M1 x2 (D 2) w25 ∧ PA RInt M1 x2.Lo (D 3) w25 ∧ PEq (.int .i64 x2.Lo) (D 4) w25 ∧ PV (RSlice RSpan) M1 a_list (D 5) w25 ∧ PEq (.int .i64 k1) (D 6) w25 ∧ PA RSpan M1 x2 (D 7) w25 ∧ PA RInt M1 x2.Hi (D 8) w25 ∧ PEq (.int .i64 x2.Hi) (D 9) w25 ∧ PEq (.bool true) (D 10) w25 ∧ PEq (.bool false) (D 11) w25 ∧ PEq (.bool false) (D 12) w25 ∧ PV (RSlice RSpan) M1 a_list (D 13) w25 ∧ PEq (.int .i64 k1) (D 14) w25 ∧ PA RSpan M1 x2 (D 15) w25 ∧ PA RInt M1 x2.Hi (D 16) w25 ∧ PEq (.int .i64 x2.Hi) (D 17) w25 ∧ PEq (.int .i64 a_top) (D 18) w25 ∧ True := hd20
              obtain ⟨-, -, -, -, -, -, -, -, -, -, -, -, d36, -, -, -, -, d41, d42, -⟩ := hd20
              refine lw_sub (E' := [(35, (.bool false)), (40, (.int .i64 x2.Hi)), (41, (.int .i64 a_top)), (0, v0p), (1, (.int .i64 a_top)), (5, v2), (6, (.int .i64 k1))]) ⟨(congrArg some d36), (congrArg some d41), (congrArg some d42), rfl, rfl, rfl, rfl, trivial⟩ ?_
              replace hb3 := bind_some hb3
              obtain ⟨x4, hx4, hb3⟩ := hb3
              refine lw_on rfl rfl rfl rfl rfl rfl (ow_call rfl rfl Tryd.call83 (w_spec_l1In (hG.mono (((hl1.trans hl2).trans hl3).trans hl25)) hC25.old hx4) fun v15 w26 hv15 => ?_)
              obtain ⟨hv15, hb6⟩ := hv15
              have hl26 := Le.no M1 hb6
              have hC26 := hC25.no hb6
              obtain rfl := vbool_eq hv15
              refine lw_on rfl rfl rfl rfl rfl rfl (ow_not rfl rfl ?_)
              refine lw_op rfl rfl rfl (ow_pickF rfl rfl rfl ?_)
              refine lw_nil ?_
              refine ew_then ?_
              replace hb3 := cond_some hb3
              rcases hb3 with ⟨hc5, hb3⟩ | ⟨hc5, hb3⟩
              · subst hc5
                refine cw_false rfl ?_
                refine cw_skip ?_
                refine ew_then ?_
                refine cw_region ?_
                refine lw_op rfl rfl rfl (ow_move rfl rfl ?_)
                refine lw_op rfl rfl rfl (ow_move rfl rfl ?_)
                refine lw_op rfl rfl rfl (ow_move rfl rfl ?_)
                refine lw_op rfl rfl rfl (ow_indexSlice (R := RSpan) rfl rfl rfl (VRep.mono ((((hl1.trans hl2).trans hl3).trans hl25).trans hl26) h0) Tryd.underlying93 (Tryd.sizeOf140 _) hx2 fun p14 hp14 => ?_)
                refine lw_op rfl rfl rfl (ow_load (R := RSpan) rfl rfl hp14 (Tryd.sizeOf140 _) (Tryd.isAgg140 _) fun v16 hv16 => ?_)
                replace hb3 := bind_some hb3
                obtain ⟨x5, hx5, hb3⟩ := hb3
                refine lw_op rfl rfl rfl (ow_call rfl rfl Tryd.call160 (w_spec_l1Add (hG.mono ((((hl1.trans hl2).trans hl3).trans hl25).trans hl26)) hC26.old (VRep.mono (hl25.trans hl26) hw2) hv16 hx5) fun v17 w27 hv17 => ?_)
                obtain ⟨hv17, hb7⟩ := hv17
                have hl27 := Le.no M1 hb7
                have hC27 := hC26.no hb7
                refine lw_op rfl rfl rfl (ow_assign rfl rfl ?_)
                refine lw_nil ?_
                refine ew_blockN ?_
                refine ew_then ?_
                refine cw_region ?_
                refine lw_op rfl rfl rfl (ow_move rfl rfl ?_)
                refine lw_op rfl rfl rfl (ow_add rfl rfl rfl ?_)
                refine lw_op rfl rfl rfl (ow_assign rfl rfl ?_)
                refine lw_nil ?_
                refine ew_nxt (x5, (W (k1 + 1))) hb3 fun a ha => ⟨M1, v17, ?_, (((hl3.trans hl25).trans hl26).trans hl27), hC27, hv17⟩
                exact ha.sub ⟨rfl, rfl, rfl, rfl, trivial⟩
              · subst hc5
                refine cw_true rfl ?_
                refine cw_seq ?_
                refine cw_region ?_
                refine lw_op rfl rfl rfl (ow_buildSlice0I (R := RSpan) (e := 140) rfl (by kernel_rfl) hC26 fun p15 w28 hw3 hb8 hl28 hC28 => ?_)
                refine lw_op rfl rfl rfl (ow_assign rfl rfl ?_)
                refine lw_nil ?_
                refine ew_then ?_
                refine cw_ret ?_
                refine ew_thenR ?_
                refine ew_blockR ?_
                refine ew_thenR ?_
                refine ew_thenR ?_
                refine ew_blockR ?_
                refine ew_brkR ?_
                refine ew_thenR ?_
                have e7 := hR1 _ (Option.some.inj hb3).symm
                subst e7
                obtain rfl := Option.some.inj h
                exact ew_ret (res1 rfl (.tmp rfl)) ⟨_, rfl, (VRep.mono hC28.back hw3), hC28.bx⟩
          · subst hc4
            refine cw_sub (E' := [(0, v0p), (1, (.int .i64 a_top)), (5, v2), (6, (.int .i64 k1))]) ⟨rfl, rfl, rfl, rfl, trivial⟩ ?_
            refine cw_drawQ 19 [PV (RSlice RSpan) M1 a_list, PEq (.int .i64 k1), PA RSpan M1 x2, PA RInt M1 x2.Lo, PEq (.int .i64 x2.Lo), PV (RSlice RSpan) M1 a_list, PEq (.int .i64 k1), PA RSpan M1 x2, PA RInt M1 x2.Hi, PEq (.int .i64 x2.Hi), PEq (.bool false), PEq (.bool true), PEq (.bool true), PEq undef, PEq undef, PEq undef, PEq undef, PEq undef, PEq undef] (by kernel_rfl) rfl (by kernel_rfl) ⟨PV.mono _ _ _, PEq.mono _, PA.mono _ _ _, PA.mono _ _ _, PEq.mono _, PV.mono _ _ _, PEq.mono _, PA.mono _ _ _, PA.mono _ _ _, PEq.mono _, PEq.mono _, PEq.mono _, PEq.mono _, PEq.mono _, PEq.mono _, PEq.mono _, PEq.mono _, PEq.mono _, PEq.mono _, trivial⟩ ⟨?_, ?_, ?_, ?_, ?_, ?_, ?_, ?_, ?_, ?_, ?_, ?_, ?_, ?_, ?_, ?_, ?_, ?_, ?_, trivial⟩ ?_
            · intro w29 D hS21 hd21
              have hl29 := Le.no M1 hS21
              have hC29 := hC3.no hS21
              refine dg_sub (E' := [(0, v0p)]) ⟨rfl, trivial⟩ ?_
              refine dg_plain rfl (ow_move rfl rfl ?_)
              exact ⟨BX.refl _ _, (VRep.mono (((hl1.trans hl2).trans hl3).trans hl29) h0)⟩
            · intro w30 D hS22 hd22
              have hl30 := Le.no M1 hS22
              have hC30 := hC3.no hS22
              refine dg_sub (E' := [(6, (.int .i64 k1))]) ⟨rfl, trivial⟩ ?_
              refine dg_plain rfl (ow_move rfl rfl ?_)
              exact ⟨BX.refl _ _, rfl⟩
            · intro w31 D hS23 hd23
              have hl31 := Le.no M1 hS23
              have hC31 := hC3.no hS23
              have hd23 : PV (RSlice RSpan) M1 a_list (D 0) w31 ∧ PEq (.int .i64 k1) (D 1) w31 ∧ True := hd23
              obtain ⟨d43, d44, -⟩ := hd23
              obtain ⟨v18, hq4⟩ : ∃ v, (D 0) = v := ⟨_, rfl⟩
              rw [hq4] at d43
              refine dg_sub (E' := [(23, v18), (24, (.int .i64 k1))]) ⟨(congrArg some hq4), (congrArg some d44), trivial⟩ ?_
              refine dg_plain rfl (ow_indexSlice (R := RSpan) rfl rfl rfl d43 Tryd.underlying93 (Tryd.sizeOf140 _) hx2 fun p16 hp16 => ?_)
              exact ⟨BX.refl _ _, ⟨_, rfl, hp16⟩⟩
            · intro w32 D hS24 hd24
              have hl32 := Le.no M1 hS24
              have hC32 := hC3.no hS24
              have hd24 : PA RSpan M1 x2 (D 2) w32 ∧ True := hd24
              obtain ⟨d45, -⟩ := hd24
              obtain ⟨p17, e8, ha7⟩ := d45
              refine dg_sub (E' := [(25, (.pointer (some p17)))]) ⟨(congrArg some e8), trivial⟩ ?_
              refine dg_plain rfl (ow_fieldAddr rfl rfl Tryd.underlying140 rfl (Tryd.sizeOf3 _) ?_)
              exact ⟨BX.refl _ _, ⟨_, rfl, (ha7.fld fld_Span_Lo)⟩⟩
            · intro w33 D hS25 hd25
              have hl33 := Le.no M1 hS25
              have hC33 := hC3.no hS25
              have hd25 : PA RInt M1 x2.Lo (D 3) w33 ∧ True := hd25
              obtain ⟨d46, -⟩ := hd25
              obtain ⟨p18, e9, ha8⟩ := d46
              refine dg_sub (E' := [(26, (.pointer (some p18)))]) ⟨(congrArg some e9), trivial⟩ ?_
              refine dg_plain rfl (ow_load (R := RInt) rfl rfl ha8 (Tryd.sizeOf3 _) (Tryd.isAgg3 _) fun v19 hv19 => ?_)
              obtain rfl := vint_eq hv19
              exact ⟨BX.refl _ _, rfl⟩
            · intro w34 D hS26 hd26
              have hl34 := Le.no M1 hS26
              have hC34 := hC3.no hS26
              refine dg_sub (E' := [(0, v0p)]) ⟨rfl, trivial⟩ ?_
              refine dg_plain rfl (ow_move rfl rfl ?_)
              exact ⟨BX.refl _ _, (VRep.mono (((hl1.trans hl2).trans hl3).trans hl34) h0)⟩
            · intro w35 D hS27 hd27
              have hl35 := Le.no M1 hS27
              have hC35 := hC3.no hS27
              refine dg_sub (E' := [(6, (.int .i64 k1))]) ⟨rfl, trivial⟩ ?_
              refine dg_plain rfl (ow_move rfl rfl ?_)
              exact ⟨BX.refl _ _, rfl⟩
            · intro w36 D hS28 hd28
              have hl36 := Le.no M1 hS28
              have hC36 := hC3.no hS28
              have hd28 : PV (RSlice RSpan) M1 a_list (D 5) w36 ∧ PEq (.int .i64 k1) (D 6) w36 ∧ True := hd28
              obtain ⟨d47, d48, -⟩ := hd28
              obtain ⟨v20, hq5⟩ : ∃ v, (D 5) = v := ⟨_, rfl⟩
              rw [hq5] at d47
              refine dg_sub (E' := [(28, v20), (29, (.int .i64 k1))]) ⟨(congrArg some hq5), (congrArg some d48), trivial⟩ ?_
              refine dg_plain rfl (ow_indexSlice (R := RSpan) rfl rfl rfl d47 Tryd.underlying93 (Tryd.sizeOf140 _) hx2 fun p19 hp19 => ?_)
              exact ⟨BX.refl _ _, ⟨_, rfl, hp19⟩⟩
            · intro w37 D hS29 hd29
              have hl37 := Le.no M1 hS29
              have hC37 := hC3.no hS29
              have hd29 : PA RSpan M1 x2 (D 7) w37 ∧ True := hd29
              obtain ⟨d49, -⟩ := hd29
              obtain ⟨p20, e10, ha9⟩ := d49
              refine dg_sub (E' := [(30, (.pointer (some p20)))]) ⟨(congrArg some e10), trivial⟩ ?_
              refine dg_plain rfl (ow_fieldAddr rfl rfl Tryd.underlying140 rfl (Tryd.sizeOf3 _) ?_)
              exact ⟨BX.refl _ _, ⟨_, rfl, (ha9.fld fld_Span_Hi)⟩⟩
            · intro w38 D hS30 hd30
              have hl38 := Le.no M1 hS30
              have hC38 := hC3.no hS30
              have hd30 : PA RInt M1 x2.Hi (D 8) w38 ∧ True := hd30
              obtain ⟨d50, -⟩ := hd30
              obtain ⟨p21, e11, ha10⟩ := d50
              refine dg_sub (E' := [(31, (.pointer (some p21)))]) ⟨(congrArg some e11), trivial⟩ ?_
              refine dg_plain rfl (ow_load (R := RInt) rfl rfl ha10 (Tryd.sizeOf3 _) (Tryd.isAgg3 _) fun v21 hv21 => ?_)
              obtain rfl := vint_eq hv21
              exact ⟨BX.refl _ _, rfl⟩
            · intro w39 D hS31 hd31
              have hl39 := Le.no M1 hS31
              have hC39 := hC3.no hS31
              have hd31 : PEq (.int .i64 x2.Lo) (D 4) w39 ∧ PEq (.int .i64 x2.Hi) (D 9) w39 ∧ True := hd31
              obtain ⟨d51, d52, -⟩ := hd31
              refine dg_sub (E' := [(27, (.int .i64 x2.Lo)), (32, (.int .i64 x2.Hi))]) ⟨(congrArg some d51), (congrArg some d52), trivial⟩ ?_
              refine dg_plain rfl (ow_call rfl rfl Tryd.call83 (w_spec_l1In (hG.mono (((hl1.trans hl2).trans hl3).trans hl39)) hC39.old hx3) fun v22 w40 hv22 => ?_)
              obtain ⟨hv22, hb9⟩ := hv22
              have hl40 := Le.no M1 hb9
              have hC40 := hC39.no hb9
              obtain rfl := vbool_eq hv22
              exact ⟨hb9, rfl⟩
            · intro w41 D hS32 hd32
              have hl41 := Le.no M1 hS32
              have hC41 := hC3.no hS32
              have hd32 : PEq (.bool false) (D 10) w41 ∧ True := hd32
              obtain ⟨d53, -⟩ := hd32
              refine dg_sub (E' := [(33, (.bool false))]) ⟨(congrArg some d53), trivial⟩ ?_
              refine dg_plain rfl (ow_not rfl rfl ?_)
              exact ⟨BX.refl _ _, rfl⟩
            · intro w42 D hS33 hd33
              have hl42 := Le.no M1 hS33
              have hC42 := hC3.no hS33
              have hd33 : PEq (.bool true) (D 11) w42 ∧ PEq (.bool false) (D 10) w42 ∧ True := hd33
              obtain ⟨d54, d55, -⟩ := hd33
              refine dg_sub (E' := [(34, (.bool true))]) ⟨(congrArg some d54), trivial⟩ ?_
              refine dg_plain rfl (ow_move rfl rfl ?_)
              exact ⟨BX.refl _ _, rfl⟩
            · intro w43 D hS34 hd34
              have hl43 := Le.no M1 hS34
              have hC43 := hC3.no hS34
              have hd34 : PEq (.bool true) (D 12) w43 ∧ True := hd34
              obtain ⟨d56, -⟩ := hd34
              refine dg_sub (E' := [(35, (.bool true)), (0, v0p)]) ⟨(congrArg some d56), rfl, trivial⟩ ?_
              exact dg_off rfl rfl rfl rfl ⟨BX.refl _ _, rfl⟩
            · intro w44 D hS35 hd35
              have hl44 := Le.no M1 hS35
              have hC44 := hC3.no hS35
              have hd35 : PEq (.bool true) (D 12) w44 ∧ True := hd35
              obtain ⟨d57, -⟩ := hd35
              refine dg_sub (E' := [(35, (.bool true)), (6, (.int .i64 k1))]) ⟨(congrArg some d57), rfl, trivial⟩ ?_
              exact dg_off rfl rfl rfl rfl ⟨BX.refl _ _, rfl⟩
            · intro w45 D hS36 hd36
              have hl45 := Le.no M1 hS36
              have hC45 := hC3.no hS36
              have hd36 : PEq undef (D 13) w45 ∧ PEq undef (D 14) w45 ∧ PEq (.bool true) (D 12) w45 ∧ True := hd36
              obtain ⟨d58, d59, d60, -⟩ := hd36
              refine dg_sub (E' := [(36, undef), (37, undef), (35, (.bool true))]) ⟨(congrArg some d58), (congrArg some d59), (congrArg some d60), trivial⟩ ?_
              exact dg_off rfl rfl rfl rfl ⟨BX.refl _ _, rfl⟩
            · intro w46 D hS37 hd37
              have hl46 := Le.no M1 hS37
              have hC46 := hC3.no hS37
              have hd37 : PEq undef (D 15) w46 ∧ PEq (.bool true) (D 12) w46 ∧ True := hd37
              obtain ⟨d61, d62, -⟩ := hd37
              refine dg_sub (E' := [(38, undef), (35, (.bool true))]) ⟨(congrArg some d61), (congrArg some d62), trivial⟩ ?_
              exact dg_off rfl rfl rfl rfl ⟨BX.refl _ _, rfl⟩
            · intro w47 D hS38 hd38
              have hl47 := Le.no M1 hS38
              have hC47 := hC3.no hS38
              have hd38 : PEq undef (D 16) w47 ∧ PEq (.bool true) (D 12) w47 ∧ True := hd38
              obtain ⟨d63, d64, -⟩ := hd38
              refine dg_sub (E' := [(39, undef), (35, (.bool true))]) ⟨(congrArg some d63), (congrArg some d64), trivial⟩ ?_
              exact dg_off rfl rfl rfl rfl ⟨BX.refl _ _, rfl⟩
            · intro w48 D hS39 hd39
              have hl48 := Le.no M1 hS39
              have hC48 := hC3.no hS39
              have hd39 : PEq (.bool true) (D 12) w48 ∧ True := hd39
              obtain ⟨d65, -⟩ := hd39
              refine dg_sub (E' := [(35, (.bool true)), (1, (.int .i64 a_top))]) ⟨(congrArg some d65), rfl, trivial⟩ ?_
              exact dg_off rfl rfl rfl rfl ⟨BX.refl _ _, rfl⟩
            · intro w49 D hS40 hd40
              have hl49 := Le.no M1 hS40
              have hC49 := hC3.no hS40
              have hd40 : PV (RSlice RSpan) M1 a_list (D 0) w49 ∧ PEq (.int .i64 k1) (D 1) w49 ∧ PA RSpan M1 x2 (D 2) w49 ∧ PA RInt M1 x2.Lo (D 3) w49 ∧ PEq (.int .i64 x2.Lo) (D 4) w49 ∧ PV (RSlice RSpan) M1 a_list (D 5) w49 ∧ PEq (.int .i64 k1) (D 6) w49 ∧ PA RSpan M1 x2 (D 7) w49 ∧ PA RInt M1 x2.Hi (D 8) w49 ∧ PEq (.int .i64 x2.Hi) (D 9) w49 ∧ PEq (.bool false) (D 10) w49 ∧ PEq (.bool true) (D 11) w49 ∧ PEq (.bool true) (D 12) w49 ∧ PEq undef (D 13) w49 ∧ PEq undef (D 14) w49 ∧ PEq undef (D 15) w49 ∧ PEq undef (D 16) w49 ∧ PEq undef (D 17) w49 ∧ PEq undef (D 18) w49 ∧ True := hd40
              obtain ⟨-, -, -, -, -, -, -, -, -, -, -, -, d78, -, -, -, -, d83, d84, -⟩ := hd40
              refine lw_sub (E' := [(35, (.bool true)), (40, undef), (41, undef), (0, v0p), (1, (.int .i64 a_top)), (5, v2), (6, (.int .i64 k1))]) ⟨(congrArg some d78), (congrArg some d83), (congrArg some d84), rfl, rfl, rfl, rfl, trivial⟩ ?_
              refine lw_off rfl rfl rfl rfl rfl rfl ?_
              refine lw_off rfl rfl rfl rfl rfl rfl ?_
              refine lw_op rfl rfl rfl (ow_pickT rfl rfl rfl ?_)
              refine lw_nil ?_
              refine ew_then ?_
              refine cw_true rfl ?_
              refine cw_seq ?_
              refine cw_region ?_
              refine lw_op rfl rfl rfl (ow_buildSlice0I (R := RSpan) (e := 140) rfl (by kernel_rfl) hC49 fun p22 w50 hw4 hb10 hl50 hC50 => ?_)
              refine lw_op rfl rfl rfl (ow_assign rfl rfl ?_)
              refine lw_nil ?_
              refine ew_then ?_
              refine cw_ret ?_
              refine ew_thenR ?_
              refine ew_blockR ?_
              refine ew_thenR ?_
              refine ew_thenR ?_
              refine ew_blockR ?_
              refine ew_brkR ?_
              refine ew_thenR ?_
              have e12 := hR1 _ (Option.some.inj hb3).symm
              subst e12
              obtain rfl := Option.some.inj h
              exact ew_ret (res1 rfl (.tmp rfl)) ⟨_, rfl, (VRep.mono hC50.back hw4), hC50.bx⟩
        · obtain rfl := hbb2.trans hc3
          refine cw_false rfl ?_
          refine cw_exit ?_
          refine ew_thenX ?_
          refine ew_thenX ?_
          refine ew_blockX ?_
          refine ew_brk (y1, k1) hb3 fun a ha => ⟨M1, v2, ?_, hl3, hC3, hw2⟩
          exact ha.sub ⟨rfl, rfl, rfl, rfl, trivial⟩
      · rintro ⟨y2, k2⟩ a w51 hlr2 ⟨M2, v23, hF2, hl51, hC51, hw5⟩
        subst hlr2
        refine ew_at (E := [(0, v0p), (1, (.int .i64 a_top)), (5, v23), (6, (.int .i64 k2))]) hF2 ?_
        refine ew_then ?_
        refine cw_seq ?_
        refine cw_region ?_
        refine lw_op rfl rfl rfl (ow_move rfl rfl ?_)
        refine lw_op rfl rfl rfl (ow_assign rfl rfl ?_)
        refine lw_nil ?_
        refine ew_then ?_
        refine cw_ret ?_
        obtain rfl := Option.some.inj h
        exact ew_ret (res1 rfl (.tmp rfl)) ⟨_, rfl, (VRep.mono hC51.back hw5), hC51.bx⟩
  · subst hc1
    refine lw_off rfl rfl rfl rfl rfl rfl ?_
    refine lw_off rfl rfl rfl rfl rfl rfl ?_
    refine lw_off rfl rfl rfl rfl rfl rfl ?_
    refine lw_op rfl rfl rfl (ow_pickT rfl rfl rfl ?_)
    refine lw_nil ?_
    refine ew_then ?_
    refine cw_true rfl ?_
    refine cw_seq ?_
    refine cw_region ?_
    refine lw_op rfl rfl rfl (ow_move rfl rfl ?_)
    refine lw_op rfl rfl rfl (ow_assign rfl rfl ?_)
    refine lw_nil ?_
    refine ew_then ?_
    refine cw_ret ?_
    refine ew_thenR ?_
    obtain rfl := Option.some.inj h
    exact ew_ret (res1 rfl (.tmp rfl)) ⟨_, rfl, (VRep.mono hC2.back (VRep.mono hl2 hw1)), hC2.bx⟩

theorem wo_spec_SpansOf {w : World} {M : Nat → Prop} (hG : ARep (RArr 4 RShape) w M shapes ⟨0, 0, none⟩) (hO : ∀ b, M b → b < w.heap.size) {v0p : Value} {a_list : List Span} (h0 : VRep (RSlice RSpan) w M a_list v0p) {a_top : Int} {r : (List Span)} (h : F.spec_SpansOf a_list a_top = some r) :
    Calls Tryd.prog 154 [v0p, (.int .i64 a_top)].toArray w fun e w' => ∃ v, e = .returned v ∧ (∃ M', OwnRow RSpan w.heap.size 140 w' M' r v ∧ Cx No w M w' M') ∧ BX No w w' := by
  have hC : Cx No w M w M := Cx.start hO (fun _ e => e.elim)
  refine walk (N := 53) Tryd.func154 rfl Tryd.ntmps154 rfl ?_
  refine cw_seq ?_
  refine cw_region ?_
  refine lw_op rfl rfl rfl (ow_assign rfl rfl ?_)
  refine lw_nil ?_
  refine ew_then ?_
  refine cw_seq ?_
  refine cw_region ?_
  refine lw_op rfl rfl rfl (ow_buildSlice0 (R := RSpan) (e := 140) rfl (by kernel_rfl) hC fun p1 w1 M1 hr1 hb1 hl1 hC1 hM1 hat1 => ?_)
  refine lw_op rfl rfl rfl (ow_assign rfl rfl ?_)
  refine lw_nil ?_
  refine ew_then ?_
  refine cw_seq ?_
  refine cw_seq ?_
  refine cw_region ?_
  refine lw_op rfl rfl rfl (ow_move rfl rfl ?_)
  replace h := bind_some h
  obtain ⟨x1, hx1, h⟩ := h
  refine lw_op rfl rfl rfl (ow_call rfl rfl Tryd.call83 (w_spec_l1In (hG.mono hl1) hC1.old hx1) fun v1 w2 hv1 => ?_)
  obtain ⟨hv1, hb2⟩ := hv1
  have hl2 := Le.no M1 hb2
  have hC2 := hC1.no hb2
  have hr2 := hr1.no hb2
  obtain rfl := vbool_eq hv1
  refine lw_op rfl rfl rfl (ow_not rfl rfl ?_)
  refine lw_op rfl rfl rfl (ow_move rfl rfl ?_)
  replace h := cond_some h
  rcases h with ⟨hc1, h⟩ | ⟨hc1, h⟩
  · subst hc1
    refine lw_on rfl rfl rfl rfl rfl rfl (ow_move rfl rfl ?_)
    refine lw_on rfl rfl rfl rfl rfl rfl (ow_len rfl rfl (VRep.mono (hl1.trans hl2) h0) Tryd.underlying93 rfl ?_)
    refine lw_on rfl rfl rfl rfl rfl rfl (ow_gtr rfl rfl rfl fun bb1 hbb1 => ?_)
    refine lw_op rfl rfl rfl (ow_pickF rfl rfl rfl ?_)
    refine lw_nil ?_
    refine ew_then ?_
    replace h := cond_some h
    rcases h with ⟨hc2, h⟩ | ⟨hc2, h⟩
    · obtain rfl := hbb1.trans hc2
      refine cw_true rfl ?_
      refine cw_seq ?_
      refine cw_region ?_
      refine lw_op rfl rfl rfl (ow_move rfl rfl ?_)
      refine lw_op rfl rfl rfl (ow_assign rfl rfl ?_)
      refine lw_nil ?_
      refine ew_then ?_
      refine cw_ret ?_
      refine ew_thenR ?_
      obtain rfl := Option.some.inj h
      exact ew_ret (res1 rfl (.tmp rfl)) ⟨_, rfl, ⟨M1, hr2, hC2⟩, hC2.bx⟩
    · obtain rfl := hbb1.trans hc2
      refine cw_false rfl ?_
      refine cw_skip ?_
      refine ew_then ?_
      refine cw_seq ?_
      refine cw_seq ?_
      refine cw_region ?_
      refine lw_op rfl rfl rfl (ow_assign rfl rfl ?_)
      refine lw_nil ?_
      refine ew_then ?_
      replace h := bind_some h
      obtain ⟨lr1, hlr1, h⟩ := h
      refine cw_for hlr1 (fun s a w' => ∃ (M' : Nat → Prop) (v0c : Value), Fits 53 [(0, v0p), (1, (.int .i64 a_top)), (5, v0c), (6, (.int .i64 s.2))] a ∧ Le w2 M1 w' M' ∧ Cx No w M w' M' ∧ OwnRow RSpan w.heap.size 140 w' M' s.1 v0c) ?_ ?_ ?_
      · intro a ha
        exact ⟨M1, (.slice (some p1) 0 0), ha.sub ⟨rfl, rfl, rfl, rfl, trivial⟩, Le.refl _ _, hC2, hr2⟩
      · rintro ⟨y1, k1⟩ a w3 sr1 ⟨M2, v2, hF1, hl3, hC3, hw1⟩ hb3 hR1
        refine cw_at (E := [(0, v0p), (1, (.int .i64 a_top)), (5, v2), (6, (.int .i64 k1))]) hF1 ?_
        refine cw_seq ?_
        refine cw_seq ?_
        refine cw_region ?_
        refine lw_op rfl rfl rfl (ow_move rfl rfl ?_)
        refine lw_op rfl rfl rfl (ow_move rfl rfl ?_)
        refine lw_op rfl rfl rfl (ow_len rfl rfl (VRep.mono ((hl1.trans hl2).trans hl3) h0) Tryd.underlying93 rfl ?_)
        refine lw_op rfl rfl rfl (ow_lss rfl rfl rfl fun bb2 hbb2 => ?_)
        refine lw_nil ?_
        refine ew_then ?_
        replace hb3 := cond_some hb3
        rcases hb3 with ⟨hc3, hb3⟩ | ⟨hc3, hb3⟩
        · obtain rfl := hbb2.trans hc3
          refine cw_true rfl ?_
          refine cw_skip ?_
          refine ew_then ?_
          refine cw_seq ?_
          refine cw_block ?_
          refine cw_seq ?_
          refine cw_seq ?_
          replace hb3 := bind_some hb3
          obtain ⟨x2, hx2, hb3⟩ := hb3
          replace hb3 := bind_some hb3
          obtain ⟨x3, hx3, hb3⟩ := hb3
          replace hb3 := cond_some hb3
          rcases hb3 with ⟨hc4, hb3⟩ | ⟨hc4, hb3⟩
          · subst hc4
            refine cw_sub (E' := [(0, v0p), (1, (.int .i64 a_top)), (5, v2), (6, (.int .i64 k1))]) ⟨rfl, rfl, rfl, rfl, trivial⟩ ?_
            refine cw_drawQ 19 [PV (RSlice RSpan) M2 a_list, PEq (.int .i64 k1), PA RSpan M2 x2, PA RInt M2 x2.Lo, PEq (.int .i64 x2.Lo), PV (RSlice RSpan) M2 a_list, PEq (.int .i64 k1), PA RSpan M2 x2, PA RInt M2 x2.Hi, PEq (.int .i64 x2.Hi), PEq (.bool true), PEq (.bool false), PEq (.bool false), PV (RSlice RSpan) M2 a_list, PEq (.int .i64 k1), PA RSpan M2 x2, PA RInt M2 x2.Hi, PEq (.int .i64 x2.Hi), PEq (.int .i64 a_top)] (by kernel_rfl) rfl (by kernel_rfl) ⟨PV.mono _ _ _, PEq.mono _, PA.mono _ _ _, PA.mono _ _ _, PEq.mono _, PV.mono _ _ _, PEq.mono _, PA.mono _ _ _, PA.mono _ _ _, PEq.mono _, PEq.mono _, PEq.mono _, PEq.mono _, PV.mono _ _ _, PEq.mono _, PA.mono _ _ _, PA.mono _ _ _, PEq.mono _, PEq.mono _, trivial⟩ ⟨?_, ?_, ?_, ?_, ?_, ?_, ?_, ?_, ?_, ?_, ?_, ?_, ?_, ?_, ?_, ?_, ?_, ?_, ?_, trivial⟩ ?_
            · intro w5 D hS1 hd1
              have hl5 := Le.no M2 hS1
              have hC5 := hC3.no hS1
              have hr4 := hw1.no hS1
              refine dg_sub (E' := [(0, v0p)]) ⟨rfl, trivial⟩ ?_
              refine dg_plain rfl (ow_move rfl rfl ?_)
              exact ⟨BX.refl _ _, (VRep.mono (((hl1.trans hl2).trans hl3).trans hl5) h0)⟩
            · intro w6 D hS2 hd2
              have hl6 := Le.no M2 hS2
              have hC6 := hC3.no hS2
              have hr5 := hw1.no hS2
              refine dg_sub (E' := [(6, (.int .i64 k1))]) ⟨rfl, trivial⟩ ?_
              refine dg_plain rfl (ow_move rfl rfl ?_)
              exact ⟨BX.refl _ _, rfl⟩
            · intro w7 D hS3 hd3
              have hl7 := Le.no M2 hS3
              have hC7 := hC3.no hS3
              have hr6 := hw1.no hS3
              have hd3 : PV (RSlice RSpan) M2 a_list (D 0) w7 ∧ PEq (.int .i64 k1) (D 1) w7 ∧ True := hd3
              obtain ⟨d1, d2, -⟩ := hd3
              obtain ⟨v8, hq1⟩ : ∃ v, (D 0) = v := ⟨_, rfl⟩
              rw [hq1] at d1
              refine dg_sub (E' := [(23, v8), (24, (.int .i64 k1))]) ⟨(congrArg some hq1), (congrArg some d2), trivial⟩ ?_
              refine dg_plain rfl (ow_indexSlice (R := RSpan) rfl rfl rfl d1 Tryd.underlying93 (Tryd.sizeOf140 _) hx2 fun p5 hp5 => ?_)
              exact ⟨BX.refl _ _, ⟨_, rfl, hp5⟩⟩
            · intro w8 D hS4 hd4
              have hl8 := Le.no M2 hS4
              have hC8 := hC3.no hS4
              have hr7 := hw1.no hS4
              have hd4 : PA RSpan M2 x2 (D 2) w8 ∧ True := hd4
              obtain ⟨d3, -⟩ := hd4
              obtain ⟨p6, e1, ha1⟩ := d3
              refine dg_sub (E' := [(25, (.pointer (some p6)))]) ⟨(congrArg some e1), trivial⟩ ?_
              refine dg_plain rfl (ow_fieldAddr rfl rfl Tryd.underlying140 rfl (Tryd.sizeOf3 _) ?_)
              exact ⟨BX.refl _ _, ⟨_, rfl, (ha1.fld fld_Span_Lo)⟩⟩
            · intro w9 D hS5 hd5
              have hl9 := Le.no M2 hS5
              have hC9 := hC3.no hS5
              have hr8 := hw1.no hS5
              have hd5 : PA RInt M2 x2.Lo (D 3) w9 ∧ True := hd5
              obtain ⟨d4, -⟩ := hd5
              obtain ⟨p7, e2, ha2⟩ := d4
              refine dg_sub (E' := [(26, (.pointer (some p7)))]) ⟨(congrArg some e2), trivial⟩ ?_
              refine dg_plain rfl (ow_load (R := RInt) rfl rfl ha2 (Tryd.sizeOf3 _) (Tryd.isAgg3 _) fun v9 hv9 => ?_)
              obtain rfl := vint_eq hv9
              exact ⟨BX.refl _ _, rfl⟩
            · intro w10 D hS6 hd6
              have hl10 := Le.no M2 hS6
              have hC10 := hC3.no hS6
              have hr9 := hw1.no hS6
              refine dg_sub (E' := [(0, v0p)]) ⟨rfl, trivial⟩ ?_
              refine dg_plain rfl (ow_move rfl rfl ?_)
              exact ⟨BX.refl _ _, (VRep.mono (((hl1.trans hl2).trans hl3).trans hl10) h0)⟩
            · intro w11 D hS7 hd7
              have hl11 := Le.no M2 hS7
              have hC11 := hC3.no hS7
              have hr10 := hw1.no hS7
              refine dg_sub (E' := [(6, (.int .i64 k1))]) ⟨rfl, trivial⟩ ?_
              refine dg_plain rfl (ow_move rfl rfl ?_)
              exact ⟨BX.refl _ _, rfl⟩
            · intro w12 D hS8 hd8
              have hl12 := Le.no M2 hS8
              have hC12 := hC3.no hS8
              have hr11 := hw1.no hS8
              have hd8 : PV (RSlice RSpan) M2 a_list (D 5) w12 ∧ PEq (.int .i64 k1) (D 6) w12 ∧ True := hd8
              obtain ⟨d5, d6, -⟩ := hd8
              obtain ⟨v10, hq2⟩ : ∃ v, (D 5) = v := ⟨_, rfl⟩
              rw [hq2] at d5
              refine dg_sub (E' := [(28, v10), (29, (.int .i64 k1))]) ⟨(congrArg some hq2), (congrArg some d6), trivial⟩ ?_
              refine dg_plain rfl (ow_indexSlice (R := RSpan) rfl rfl rfl d5 Tryd.underlying93 (Tryd.sizeOf140 _) hx2 fun p8 hp8 => ?_)
              exact ⟨BX.refl _ _, ⟨_, rfl, hp8⟩⟩
            · intro w13 D hS9 hd9
              have hl13 := Le.no M2 hS9
              have hC13 := hC3.no hS9
              have hr12 := hw1.no hS9
              have hd9 : PA RSpan M2 x2 (D 7) w13 ∧ True := hd9
              obtain ⟨d7, -⟩ := hd9
              obtain ⟨p9, e3, ha3⟩ := d7
              refine dg_sub (E' := [(30, (.pointer (some p9)))]) ⟨(congrArg some e3), trivial⟩ ?_
              refine dg_plain rfl (ow_fieldAddr rfl rfl Tryd.underlying140 rfl (Tryd.sizeOf3 _) ?_)
              exact ⟨BX.refl _ _, ⟨_, rfl, (ha3.fld fld_Span_Hi)⟩⟩
            · intro w14 D hS10 hd10
              have hl14 := Le.no M2 hS10
              have hC14 := hC3.no hS10
              have hr13 := hw1.no hS10
              have hd10 : PA RInt M2 x2.Hi (D 8) w14 ∧ True := hd10
              obtain ⟨d8, -⟩ := hd10
              obtain ⟨p10, e4, ha4⟩ := d8
              refine dg_sub (E' := [(31, (.pointer (some p10)))]) ⟨(congrArg some e4), trivial⟩ ?_
              refine dg_plain rfl (ow_load (R := RInt) rfl rfl ha4 (Tryd.sizeOf3 _) (Tryd.isAgg3 _) fun v11 hv11 => ?_)
              obtain rfl := vint_eq hv11
              exact ⟨BX.refl _ _, rfl⟩
            · intro w15 D hS11 hd11
              have hl15 := Le.no M2 hS11
              have hC15 := hC3.no hS11
              have hr14 := hw1.no hS11
              have hd11 : PEq (.int .i64 x2.Lo) (D 4) w15 ∧ PEq (.int .i64 x2.Hi) (D 9) w15 ∧ True := hd11
              obtain ⟨d9, d10, -⟩ := hd11
              refine dg_sub (E' := [(27, (.int .i64 x2.Lo)), (32, (.int .i64 x2.Hi))]) ⟨(congrArg some d9), (congrArg some d10), trivial⟩ ?_
              refine dg_plain rfl (ow_call rfl rfl Tryd.call83 (w_spec_l1In (hG.mono (((hl1.trans hl2).trans hl3).trans hl15)) hC15.old hx3) fun v12 w16 hv12 => ?_)
              obtain ⟨hv12, hb5⟩ := hv12
              have hl16 := Le.no M2 hb5
              have hC16 := hC15.no hb5
              have hr15 := hr14.no hb5
              obtain rfl := vbool_eq hv12
              exact ⟨hb5, rfl⟩
            · intro w17 D hS12 hd12
              have hl17 := Le.no M2 hS12
              have hC17 := hC3.no hS12
              have hr16 := hw1.no hS12
              have hd12 : PEq (.bool true) (D 10) w17 ∧ True := hd12
              obtain ⟨d11, -⟩ := hd12
              refine dg_sub (E' := [(33, (.bool true))]) ⟨(congrArg some d11), trivial⟩ ?_
              refine dg_plain rfl (ow_not rfl rfl ?_)
              exact ⟨BX.refl _ _, rfl⟩
            · intro w18 D hS13 hd13
              have hl18 := Le.no M2 hS13
              have hC18 := hC3.no hS13
              have hr17 := hw1.no hS13
              have hd13 : PEq (.bool false) (D 11) w18 ∧ PEq (.bool true) (D 10) w18 ∧ True := hd13
              obtain ⟨d12, d13, -⟩ := hd13
              refine dg_sub (E' := [(34, (.bool false))]) ⟨(congrArg some d12), trivial⟩ ?_
              refine dg_plain rfl (ow_move rfl rfl ?_)
              exact ⟨BX.refl _ _, rfl⟩
            · intro w19 D hS14 hd14
              have hl19 := Le.no M2 hS14
              have hC19 := hC3.no hS14
              have hr18 := hw1.no hS14
              have hd14 : PEq (.bool false) (D 12) w19 ∧ True := hd14
              obtain ⟨d14, -⟩ := hd14
              refine dg_sub (E' := [(35, (.bool false)), (0, v0p)]) ⟨(congrArg some d14), rfl, trivial⟩ ?_
              refine dg_on rfl rfl rfl rfl (ow_move rfl rfl ?_)
              exact ⟨BX.refl _ _, (VRep.mono (((hl1.trans hl2).trans hl3).trans hl19) h0)⟩
            · intro w20 D hS15 hd15
              have hl20 := Le.no M2 hS15
              have hC20 := hC3.no hS15
              have hr19 := hw1.no hS15
              have hd15 : PEq (.bool false) (D 12) w20 ∧ True := hd15
              obtain ⟨d15, -⟩ := hd15
              refine dg_sub (E' := [(35, (.bool false)), (6, (.int .i64 k1))]) ⟨(congrArg some d15), rfl, trivial⟩ ?_
              refine dg_on rfl rfl rfl rfl (ow_move rfl rfl ?_)
              exact ⟨BX.refl _ _, rfl⟩
            · intro w21 D hS16 hd16
              have hl21 := Le.no M2 hS16
              have hC21 := hC3.no hS16
              have hr20 := hw1.no hS16
              have hd16 : PV (RSlice RSpan) M2 a_list (D 13) w21 ∧ PEq (.int .i64 k1) (D 14) w21 ∧ PEq (.bool false) (D 12) w21 ∧ True := hd16
              obtain ⟨d16, d17, d18, -⟩ := hd16
              obtain ⟨v13, hq3⟩ : ∃ v, (D 13) = v := ⟨_, rfl⟩
              rw [hq3] at d16
              refine dg_sub (E' := [(36, v13), (37, (.int .i64 k1)), (35, (.bool false))]) ⟨(congrArg some hq3), (congrArg some d17), (congrArg some d18), trivial⟩ ?_
              refine dg_on rfl rfl rfl rfl (ow_indexSlice (R := RSpan) rfl rfl rfl d16 Tryd.underlying93 (Tryd.sizeOf140 _) hx2 fun p11 hp11 => ?_)
              exact ⟨BX.refl _ _, ⟨_, rfl, hp11⟩⟩
            · intro w22 D hS17 hd17
              have hl22 := Le.no M2 hS17
              have hC22 := hC3.no hS17
              have hr21 := hw1.no hS17
              have hd17 : PA RSpan M2 x2 (D 15) w22 ∧ PEq (.bool false) (D 12) w22 ∧ True := hd17
              obtain ⟨d19, d20, -⟩ := hd17
              obtain ⟨p12, e5, ha5⟩ := d19
              refine dg_sub (E' := [(38, (.pointer (some p12))), (35, (.bool false))]) ⟨(congrArg some e5), (congrArg some d20), trivial⟩ ?_
              refine dg_on rfl rfl rfl rfl (ow_fieldAddr rfl rfl Tryd.underlying140 rfl (Tryd.sizeOf3 _) ?_)
              exact ⟨BX.refl _ _, ⟨_, rfl, (ha5.fld fld_Span_Hi)⟩⟩
            · intro w23 D hS18 hd18
              have hl23 := Le.no M2 hS18
              have hC23 := hC3.no hS18
              have hr22 := hw1.no hS18
              have hd18 : PA RInt M2 x2.Hi (D 16) w23 ∧ PEq (.bool false) (D 12) w23 ∧ True := hd18
              obtain ⟨d21, d22, -⟩ := hd18
              obtain ⟨p13, e6, ha6⟩ := d21
              refine dg_sub (E' := [(39, (.pointer (some p13))), (35, (.bool false))]) ⟨(congrArg some e6), (congrArg some d22), trivial⟩ ?_
              refine dg_on rfl rfl rfl rfl (ow_load (R := RInt) rfl rfl ha6 (Tryd.sizeOf3 _) (Tryd.isAgg3 _) fun v14 hv14 => ?_)
              obtain rfl := vint_eq hv14
              exact ⟨BX.refl _ _, rfl⟩
            · intro w24 D hS19 hd19
              have hl24 := Le.no M2 hS19
              have hC24 := hC3.no hS19
              have hr23 := hw1.no hS19
              have hd19 : PEq (.bool false) (D 12) w24 ∧ True := hd19
              obtain ⟨d23, -⟩ := hd19
              refine dg_sub (E' := [(35, (.bool false)), (1, (.int .i64 a_top))]) ⟨(congrArg some d23), rfl, trivial⟩ ?_
              refine dg_on rfl rfl rfl rfl (ow_move rfl rfl ?_)
              exact ⟨BX.refl _ _, rfl⟩
            · intro w25 D hS20 hd20
              have hl25 := Le.no M2 hS20
              have hC25 := hC3.no hS20
              have hr24 := hw1.no hS20
              have hd20 : PV (RSlice RSpan) M2 a_list (D 0) w25 ∧ PEq (.int .i64 k1) (D 1) w25 ∧ PA RSpan M2 x2 (D 2) w25 ∧ PA RInt M2 x2.Lo (D 3) w25 ∧ PEq (.int .i64 x2.Lo) (D 4) w25 ∧ PV (RSlice RSpan) M2 a_list (D 5) w25 ∧ PEq (.int .i64 k1) (D 6) w25 ∧ PA RSpan M2 x2 (D 7) w25 ∧ PA RInt M2 x2.Hi (D 8) w25 ∧ PEq (.int .i64 x2.Hi) (D 9) w25 ∧ PEq (.bool true) (D 10) w25 ∧ PEq (.bool false) (D 11) w25 ∧ PEq (.bool false) (D 12) w25 ∧ PV (RSlice RSpan) M2 a_list (D 13) w25 ∧ PEq (.int .i64 k1) (D 14) w25 ∧ PA RSpan M2 x2 (D 15) w25 ∧ PA RInt M2 x2.Hi (D 16) w25 ∧ PEq (.int .i64 x2.Hi) (D 17) w25 ∧ PEq (.int .i64 a_top) (D 18) w25 ∧ True := hd20
              obtain ⟨-, -, -, -, -, -, -, -, -, -, -, -, d36, -, -, -, -, d41, d42, -⟩ := hd20
              refine lw_sub (E' := [(35, (.bool false)), (40, (.int .i64 x2.Hi)), (41, (.int .i64 a_top)), (0, v0p), (1, (.int .i64 a_top)), (5, v2), (6, (.int .i64 k1))]) ⟨(congrArg some d36), (congrArg some d41), (congrArg some d42), rfl, rfl, rfl, rfl, trivial⟩ ?_
              replace hb3 := bind_some hb3
              obtain ⟨x4, hx4, hb3⟩ := hb3
              refine lw_on rfl rfl rfl rfl rfl rfl (ow_call rfl rfl Tryd.call83 (w_spec_l1In (hG.mono (((hl1.trans hl2).trans hl3).trans hl25)) hC25.old hx4) fun v15 w26 hv15 => ?_)
              obtain ⟨hv15, hb6⟩ := hv15
              have hl26 := Le.no M2 hb6
              have hC26 := hC25.no hb6
              have hr25 := hr24.no hb6
              obtain rfl := vbool_eq hv15
              refine lw_on rfl rfl rfl rfl rfl rfl (ow_not rfl rfl ?_)
              refine lw_op rfl rfl rfl (ow_pickF rfl rfl rfl ?_)
              refine lw_nil ?_
              refine ew_then ?_
              replace hb3 := cond_some hb3
              rcases hb3 with ⟨hc5, hb3⟩ | ⟨hc5, hb3⟩
              · subst hc5
                refine cw_false rfl ?_
                refine cw_skip ?_
                refine ew_then ?_
                refine cw_region ?_
                refine lw_op rfl rfl rfl (ow_move rfl rfl ?_)
                refine lw_op rfl rfl rfl (ow_move rfl rfl ?_)
                refine lw_op rfl rfl rfl (ow_move rfl rfl ?_)
                refine lw_op rfl rfl rfl (ow_indexSlice (R := RSpan) rfl rfl rfl (VRep.mono ((((hl1.trans hl2).trans hl3).trans hl25).trans hl26) h0) Tryd.underlying93 (Tryd.sizeOf140 _) hx2 fun p14 hp14 => ?_)
                refine lw_op rfl rfl rfl (ow_load (R := RSpan) rfl rfl hp14 (Tryd.sizeOf140 _) (Tryd.isAgg140 _) fun v16 hv16 => ?_)
                have hw2 := hr25.freezeDel
                have hC27 := hr25.cxDel hC26 (fun _ e => e.elim) hO
                have hl27 := Le.del w26 M2 v2
                replace hb3 := bind_some hb3
                obtain ⟨x5, hx5, hb3⟩ := hb3
                refine lw_op rfl rfl rfl (ow_call rfl rfl Tryd.call160 (wo_spec_l1Add (hG.mono (((((hl1.trans hl2).trans hl3).trans hl25).trans hl26).trans hl27)) hC27.old hw2 (VRep.mono hl27 hv16) hx5) fun v17 w27 hv17 => ?_)
                obtain ⟨⟨M3, hr26, hk1⟩, hb7⟩ := hv17
                replace hr26 := hr26.base hC27.bx.size
                have hl28 := hk1.le
                have hC28 := hC27.trans hk1
                refine lw_op rfl rfl rfl (ow_assign rfl rfl ?_)
                refine lw_nil ?_
                refine ew_blockN ?_
                refine ew_then ?_
                refine cw_region ?_
                refine lw_op rfl rfl rfl (ow_move rfl rfl ?_)
                refine lw_op rfl rfl rfl (ow_add rfl rfl rfl ?_)
                refine lw_op rfl rfl rfl (ow_assign rfl rfl ?_)
                refine lw_nil ?_
                refine ew_nxt (x5, (W (k1 + 1))) hb3 fun a ha => ⟨M3, v17, ?_, ((((hl3.trans hl25).trans hl26).trans hl27).trans hl28), hC28, hr26⟩
                exact ha.sub ⟨rfl, rfl, rfl, rfl, trivial⟩
              · subst hc5
                refine cw_true rfl ?_
                refine cw_seq ?_
                refine cw_region ?_
                refine lw_op rfl rfl rfl (ow_buildSlice0 (R := RSpan) (e := 140) rfl (by kernel_rfl) hC26 fun p15 w28 M4 hr27 hb8 hl29 hC29 hM2 hat2 => ?_)
                have hr28 := hr25.go hb8 (fun _ _ e => e) hl29 hM2
                refine lw_op rfl rfl rfl (ow_assign rfl rfl ?_)
                refine lw_nil ?_
                refine ew_then ?_
                refine cw_ret ?_
                refine ew_thenR ?_
                refine ew_blockR ?_
                refine ew_thenR ?_
                refine ew_thenR ?_
                refine ew_blockR ?_
                refine ew_brkR ?_
                refine ew_thenR ?_
                have e7 := hR1 _ (Option.some.inj hb3).symm
                subst e7
                obtain rfl := Option.some.inj h
                exact ew_ret (res1 rfl (.tmp rfl)) ⟨_, rfl, ⟨M4, hr27, hC29⟩, hC29.bx⟩
          · subst hc4
            refine cw_sub (E' := [(0, v0p), (1, (.int .i64 a_top)), (5, v2), (6, (.int .i64 k1))]) ⟨rfl, rfl, rfl, rfl, trivial⟩ ?_
            refine cw_drawQ 19 [PV (RSlice RSpan) M2 a_list, PEq (.int .i64 k1), PA RSpan M2 x2, PA RInt M2 x2.Lo, PEq (.int .i64 x2.Lo), PV (RSlice RSpan) M2 a_list, PEq (.int .i64 k1), PA RSpan M2 x2, PA RInt M2 x2.Hi, PEq (.int .i64 x2.Hi), PEq (.bool false), PEq (.bool true), PEq (.bool true), PEq undef, PEq undef, PEq undef, PEq undef, PEq undef, PEq undef] (by kernel_rfl) rfl (by kernel_rfl) ⟨PV.mono _ _ _, PEq.mono _, PA.mono _ _ _, PA.mono _ _ _, PEq.mono _, PV.mono _ _ _, PEq.mono _, PA.mono _ _ _, PA.mono _ _ _, PEq.mono _, PEq.mono _, PEq.mono _, PEq.mono _, PEq.mono _, PEq.mono _, PEq.mono _, PEq.mono _, PEq.mono _, PEq.mono _, trivial⟩ ⟨?_, ?_, ?_, ?_, ?_, ?_, ?_, ?_, ?_, ?_, ?_, ?_, ?_, ?_, ?_, ?_, ?_, ?_, ?_, trivial⟩ ?_
            · intro w29 D hS21 hd21
              have hl30 := Le.no M2 hS21
              have hC30 := hC3.no hS21
              have hr29 := hw1.no hS21
              refine dg_sub (E' := [(0, v0p)]) ⟨rfl, trivial⟩ ?_
              refine dg_plain rfl (ow_move rfl rfl ?_)
              exact ⟨BX.refl _ _, (VRep.mono (((hl1.trans hl2).trans hl3).trans hl30) h0)⟩
            · intro w30 D hS22 hd22
              have hl31 := Le.no M2 hS22
              have hC31 := hC3.no hS22
              have hr30 := hw1.no hS22
              refine dg_sub (E' := [(6, (.int .i64 k1))]) ⟨rfl, trivial⟩ ?_
              refine dg_plain rfl (ow_move rfl rfl ?_)
              exact ⟨BX.refl _ _, rfl⟩
            · intro w31 D hS23 hd23
              have hl32 := Le.no M2 hS23
              have hC32 := hC3.no hS23
              have hr31 := hw1.no hS23
              have hd23 : PV (RSlice RSpan) M2 a_list (D 0) w31 ∧ PEq (.int .i64 k1) (D 1) w31 ∧ True := hd23
              obtain ⟨d43, d44, -⟩ := hd23
              obtain ⟨v18, hq4⟩ : ∃ v, (D 0) = v := ⟨_, rfl⟩
              rw [hq4] at d43
              refine dg_sub (E' := [(23, v18), (24, (.int .i64 k1))]) ⟨(congrArg some hq4), (congrArg some d44), trivial⟩ ?_
              refine dg_plain rfl (ow_indexSlice (R := RSpan) rfl rfl rfl d43 Tryd.underlying93 (Tryd.sizeOf140 _) hx2 fun p16 hp16 => ?_)
              exact ⟨BX.refl _ _, ⟨_, rfl, hp16⟩⟩
            · intro w32 D hS24 hd24
              have hl33 := Le.no M2 hS24
              have hC33 := hC3.no hS24
              have hr32 := hw1.no hS24
              have hd24 : PA RSpan M2 x2 (D 2) w32 ∧ True := hd24
              obtain ⟨d45, -⟩ := hd24
              obtain ⟨p17, e8, ha7⟩ := d45
              refine dg_sub (E' := [(25, (.pointer (some p17)))]) ⟨(congrArg some e8), trivial⟩ ?_
              refine dg_plain rfl (ow_fieldAddr rfl rfl Tryd.underlying140 rfl (Tryd.sizeOf3 _) ?_)
              exact ⟨BX.refl _ _, ⟨_, rfl, (ha7.fld fld_Span_Lo)⟩⟩
            · intro w33 D hS25 hd25
              have hl34 := Le.no M2 hS25
              have hC34 := hC3.no hS25
              have hr33 := hw1.no hS25
              have hd25 : PA RInt M2 x2.Lo (D 3) w33 ∧ True := hd25
              obtain ⟨d46, -⟩ := hd25
              obtain ⟨p18, e9, ha8⟩ := d46
              refine dg_sub (E' := [(26, (.pointer (some p18)))]) ⟨(congrArg some e9), trivial⟩ ?_
              refine dg_plain rfl (ow_load (R := RInt) rfl rfl ha8 (Tryd.sizeOf3 _) (Tryd.isAgg3 _) fun v19 hv19 => ?_)
              obtain rfl := vint_eq hv19
              exact ⟨BX.refl _ _, rfl⟩
            · intro w34 D hS26 hd26
              have hl35 := Le.no M2 hS26
              have hC35 := hC3.no hS26
              have hr34 := hw1.no hS26
              refine dg_sub (E' := [(0, v0p)]) ⟨rfl, trivial⟩ ?_
              refine dg_plain rfl (ow_move rfl rfl ?_)
              exact ⟨BX.refl _ _, (VRep.mono (((hl1.trans hl2).trans hl3).trans hl35) h0)⟩
            · intro w35 D hS27 hd27
              have hl36 := Le.no M2 hS27
              have hC36 := hC3.no hS27
              have hr35 := hw1.no hS27
              refine dg_sub (E' := [(6, (.int .i64 k1))]) ⟨rfl, trivial⟩ ?_
              refine dg_plain rfl (ow_move rfl rfl ?_)
              exact ⟨BX.refl _ _, rfl⟩
            · intro w36 D hS28 hd28
              have hl37 := Le.no M2 hS28
              have hC37 := hC3.no hS28
              have hr36 := hw1.no hS28
              have hd28 : PV (RSlice RSpan) M2 a_list (D 5) w36 ∧ PEq (.int .i64 k1) (D 6) w36 ∧ True := hd28
              obtain ⟨d47, d48, -⟩ := hd28
              obtain ⟨v20, hq5⟩ : ∃ v, (D 5) = v := ⟨_, rfl⟩
              rw [hq5] at d47
              refine dg_sub (E' := [(28, v20), (29, (.int .i64 k1))]) ⟨(congrArg some hq5), (congrArg some d48), trivial⟩ ?_
              refine dg_plain rfl (ow_indexSlice (R := RSpan) rfl rfl rfl d47 Tryd.underlying93 (Tryd.sizeOf140 _) hx2 fun p19 hp19 => ?_)
              exact ⟨BX.refl _ _, ⟨_, rfl, hp19⟩⟩
            · intro w37 D hS29 hd29
              have hl38 := Le.no M2 hS29
              have hC38 := hC3.no hS29
              have hr37 := hw1.no hS29
              have hd29 : PA RSpan M2 x2 (D 7) w37 ∧ True := hd29
              obtain ⟨d49, -⟩ := hd29
              obtain ⟨p20, e10, ha9⟩ := d49
              refine dg_sub (E' := [(30, (.pointer (some p20)))]) ⟨(congrArg some e10), trivial⟩ ?_
              refine dg_plain rfl (ow_fieldAddr rfl rfl Tryd.underlying140 rfl (Tryd.sizeOf3 _) ?_)
              exact ⟨BX.refl _ _, ⟨_, rfl, (ha9.fld fld_Span_Hi)⟩⟩
            · intro w38 D hS30 hd30
              have hl39 := Le.no M2 hS30
              have hC39 := hC3.no hS30
              have hr38 := hw1.no hS30
              have hd30 : PA RInt M2 x2.Hi (D 8) w38 ∧ True := hd30
              obtain ⟨d50, -⟩ := hd30
              obtain ⟨p21, e11, ha10⟩ := d50
              refine dg_sub (E' := [(31, (.pointer (some p21)))]) ⟨(congrArg some e11), trivial⟩ ?_
              refine dg_plain rfl (ow_load (R := RInt) rfl rfl ha10 (Tryd.sizeOf3 _) (Tryd.isAgg3 _) fun v21 hv21 => ?_)
              obtain rfl := vint_eq hv21
              exact ⟨BX.refl _ _, rfl⟩
            · intro w39 D hS31 hd31
              have hl40 := Le.no M2 hS31
              have hC40 := hC3.no hS31
              have hr39 := hw1.no hS31
              have hd31 : PEq (.int .i64 x2.Lo) (D 4) w39 ∧ PEq (.int .i64 x2.Hi) (D 9) w39 ∧ True := hd31
              obtain ⟨d51, d52, -⟩ := hd31
              refine dg_sub (E' := [(27, (.int .i64 x2.Lo)), (32, (.int .i64 x2.Hi))]) ⟨(congrArg some d51), (congrArg some d52), trivial⟩ ?_
              refine dg_plain rfl (ow_call rfl rfl Tryd.call83 (w_spec_l1In (hG.mono (((hl1.trans hl2).trans hl3).trans hl40)) hC40.old hx3) fun v22 w40 hv22 => ?_)
              obtain ⟨hv22, hb9⟩ := hv22
              have hl41 := Le.no M2 hb9
              have hC41 := hC40.no hb9
              have hr40 := hr39.no hb9
              obtain rfl := vbool_eq hv22
              exact ⟨hb9, rfl⟩
            · intro w41 D hS32 hd32
              have hl42 := Le.no M2 hS32
              have hC42 := hC3.no hS32
              have hr41 := hw1.no hS32
              have hd32 : PEq (.bool false) (D 10) w41 ∧ True := hd32
              obtain ⟨d53, -⟩ := hd32
              refine dg_sub (E' := [(33, (.bool false))]) ⟨(congrArg some d53), trivial⟩ ?_
              refine dg_plain rfl (ow_not rfl rfl ?_)
              exact ⟨BX.refl _ _, rfl⟩
            · intro w42 D hS33 hd33
              have hl43 := Le.no M2 hS33
              have hC43 := hC3.no hS33
              have hr42 := hw1.no hS33
              have hd33 : PEq (.bool true) (D 11) w42 ∧ PEq (.bool false) (D 10) w42 ∧ True := hd33
              obtain ⟨d54, d55, -⟩ := hd33
              refine dg_sub (E' := [(34, (.bool true))]) ⟨(congrArg some d54), trivial⟩ ?_
              refine dg_plain rfl (ow_move rfl rfl ?_)
              exact ⟨BX.refl _ _, rfl⟩
            · intro w43 D hS34 hd34
              have hl44 := Le.no M2 hS34
              have hC44 := hC3.no hS34
              have hr43 := hw1.no hS34
              have hd34 : PEq (.bool true) (D 12) w43 ∧ True := hd34
              obtain ⟨d56, -⟩ := hd34
              refine dg_sub (E' := [(35, (.bool true)), (0, v0p)]) ⟨(congrArg some d56), rfl, trivial⟩ ?_
              exact dg_off rfl rfl rfl rfl ⟨BX.refl _ _, rfl⟩
            · intro w44 D hS35 hd35
              have hl45 := Le.no M2 hS35
              have hC45 := hC3.no hS35
              have hr44 := hw1.no hS35
              have hd35 : PEq (.bool true) (D 12) w44 ∧ True := hd35
              obtain ⟨d57, -⟩ := hd35
              refine dg_sub (E' := [(35, (.bool true)), (6, (.int .i64 k1))]) ⟨(congrArg some d57), rfl, trivial⟩ ?_
              exact dg_off rfl rfl rfl rfl ⟨BX.refl _ _, rfl⟩
            · intro w45 D hS36 hd36
              have hl46 := Le.no M2 hS36
              have hC46 := hC3.no hS36
              have hr45 := hw1.no hS36
              have hd36 : PEq undef (D 13) w45 ∧ PEq undef (D 14) w45 ∧ PEq (.bool true) (D 12) w45 ∧ True := hd36
              obtain ⟨d58, d59, d60, -⟩ := hd36
              refine dg_sub (E' := [(36, undef), (37, undef), (35, (.bool true))]) ⟨(congrArg some d58), (congrArg some d59), (congrArg some d60), trivial⟩ ?_
              exact dg_off rfl rfl rfl rfl ⟨BX.refl _ _, rfl⟩
            · intro w46 D hS37 hd37
              have hl47 := Le.no M2 hS37
              have hC47 := hC3.no hS37
              have hr46 := hw1.no hS37
              have hd37 : PEq undef (D 15) w46 ∧ PEq (.bool true) (D 12) w46 ∧ True := hd37
              obtain ⟨d61, d62, -⟩ := hd37
              refine dg_sub (E' := [(38, undef), (35, (.bool true))]) ⟨(congrArg some d61), (congrArg some d62), trivial⟩ ?_
              exact dg_off rfl rfl rfl rfl ⟨BX.refl _ _, rfl⟩
            · intro w47 D hS38 hd38
              have hl48 := Le.no M2 hS38
              have hC48 := hC3.no hS38
              have hr47 := hw1.no hS38
              have hd38 : PEq undef (D 16) w47 ∧ PEq (.bool true) (D 12) w47 ∧ True := hd38
              obtain ⟨d63, d64, -⟩ := hd38
              refine dg_sub (E' := [(39, undef), (35, (.bool true))]) ⟨(congrArg some d63), (congrArg some d64), trivial⟩ ?_
              exact dg_off rfl rfl rfl rfl ⟨BX.refl _ _, rfl⟩
            · intro w48 D hS39 hd39
              have hl49 := Le.no M2 hS39
              have hC49 := hC3.no hS39
              have hr48 := hw1.no hS39
              have hd39 : PEq (.bool true) (D 12) w48 ∧ True := hd39
              obtain ⟨d65, -⟩ := hd39
              refine dg_sub (E' := [(35, (.bool true)), (1, (.int .i64 a_top))]) ⟨(congrArg some d65), rfl, trivial⟩ ?_
              exact dg_off rfl rfl rfl rfl ⟨BX.refl _ _, rfl⟩
            · intro w49 D hS40 hd40
              have hl50 := Le.no M2 hS40
              have hC50 := hC3.no hS40
              have hr49 := hw1.no hS40
              have hd40 : PV (RSlice RSpan) M2 a_list (D 0) w49 ∧ PEq (.int .i64 k1) (D 1) w49 ∧ PA RSpan M2 x2 (D 2) w49 ∧ PA RInt M2 x2.Lo (D 3) w49 ∧ PEq (.int .i64 x2.Lo) (D 4) w49 ∧ PV (RSlice RSpan) M2 a_list (D 5) w49 ∧ PEq (.int .i64 k1) (D 6) w49 ∧ PA RSpan M2 x2 (D 7) w49 ∧ PA RInt M2 x2.Hi (D 8) w49 ∧ PEq (.int .i64 x2.Hi) (D 9) w49 ∧ PEq (.bool false) (D 10) w49 ∧ PEq (.bool true) (D 11) w49 ∧ PEq (.bool true) (D 12) w49 ∧ PEq undef (D 13) w49 ∧ PEq undef (D 14) w49 ∧ PEq undef (D 15) w49 ∧ PEq undef (D 16) w49 ∧ PEq undef (D 17) w49 ∧ PEq undef (D 18) w49 ∧ True := hd40
              obtain ⟨-, -, -, -, -, -, -, -, -, -, -, -, d78, -, -, -, -, d83, d84, -⟩ := hd40
              refine lw_sub (E' := [(35, (.bool true)), (40, undef), (41, undef), (0, v0p), (1, (.int .i64 a_top)), (5, v2), (6, (.int .i64 k1))]) ⟨(congrArg some d78), (congrArg some d83), (congrArg some d84), rfl, rfl, rfl, rfl, trivial⟩ ?_
              refine lw_off rfl rfl rfl rfl rfl rfl ?_
              refine lw_off rfl rfl rfl rfl rfl rfl ?_
              refine lw_op rfl rfl rfl (ow_pickT rfl rfl rfl ?_)
              refine lw_nil ?_
              refine ew_then ?_
              refine cw_true rfl ?_
              refine cw_seq ?_
              refine cw_region ?_
              refine lw_op rfl rfl rfl (ow_buildSlice0 (R := RSpan) (e := 140) rfl (by kernel_rfl) hC50 fun p22 w50 M5 hr50 hb10 hl51 hC51 hM3 hat3 => ?_)
              have hr51 := hr49.go hb10 (fun _ _ e => e) hl51 hM3
              refine lw_op rfl rfl rfl (ow_assign rfl rfl ?_)
              refine lw_nil ?_
              refine ew_then ?_
              refine cw_ret ?_
              refine ew_thenR ?_
              refine ew_blockR ?_
              refine ew_thenR ?_
              refine ew_thenR ?_
              refine ew_blockR ?_
              refine ew_brkR ?_
              refine ew_thenR ?_
              have e12 := hR1 _ (Option.some.inj hb3).symm
              subst e12
              obtain rfl := Option.some.inj h
              exact ew_ret (res1 rfl (.tmp rfl)) ⟨_, rfl, ⟨M5, hr50, hC51⟩, hC51.bx⟩
        · obtain rfl := hbb2.trans hc3
          refine cw_false rfl ?_
          refine cw_exit ?_
          refine ew_thenX ?_
          refine ew_thenX ?_
          refine ew_blockX ?_
          refine ew_brk (y1, k1) hb3 fun a ha => ⟨M2, v2, ?_, hl3, hC3, hw1⟩
          exact ha.sub ⟨rfl, rfl, rfl, rfl, trivial⟩
      · rintro ⟨y2, k2⟩ a w51 hlr2 ⟨M6, v23, hF2, hl52, hC52, hw3⟩
        subst hlr2
        refine ew_at (E := [(0, v0p), (1, (.int .i64 a_top)), (5, v23), (6, (.int .i64 k2))]) hF2 ?_
        refine ew_then ?_
        refine cw_seq ?_
        refine cw_region ?_
        refine lw_op rfl rfl rfl (ow_move rfl rfl ?_)
        refine lw_op rfl rfl rfl (ow_assign rfl rfl ?_)
        refine lw_nil ?_
        refine ew_then ?_
        refine cw_ret ?_
        obtain rfl := Option.some.inj h
        exact ew_ret (res1 rfl (.tmp rfl)) ⟨_, rfl, ⟨M6, hw3, hC52⟩, hC52.bx⟩
  · subst hc1
    refine lw_off rfl rfl rfl rfl rfl rfl ?_
    refine lw_off rfl rfl rfl rfl rfl rfl ?_
    refine lw_off rfl rfl rfl rfl rfl rfl ?_
    refine lw_op rfl rfl rfl (ow_pickT rfl rfl rfl ?_)
    refine lw_nil ?_
    refine ew_then ?_
    refine cw_true rfl ?_
    refine cw_seq ?_
    refine cw_region ?_
    refine lw_op rfl rfl rfl (ow_move rfl rfl ?_)
    refine lw_op rfl rfl rfl (ow_assign rfl rfl ?_)
    refine lw_nil ?_
    refine ew_then ?_
    refine cw_ret ?_
    refine ew_thenR ?_
    obtain rfl := Option.some.inj h
    exact ew_ret (res1 rfl (.tmp rfl)) ⟨_, rfl, ⟨M1, hr2, hC2⟩, hC2.bx⟩

theorem w_spec_l20Raw {w : World} {M : Nat → Prop} (hG : ARep (RArr 4 RShape) w M shapes ⟨0, 0, none⟩) (hO : ∀ b, M b → b < w.heap.size) {g : Nat} {Ax : Option Addr} {cx : Nat} {a_xs : List Int} {a_pos : Int} (hxs : VRep (RSlice RU8) w M a_xs (.slice Ax a_xs.length cx)) (hown : Own w g 180 #[.slice Ax a_xs.length cx, .int .i64 a_pos]) (hgM : M g) {a_top : Int} {a_n : Int} {r : ((List Span)) × Int} (h : F.spec_l20Raw a_xs a_pos a_top a_n = some r) :
    Calls Tryd.prog 155 [(.pointer (some ⟨g, 0, none⟩)), (.int .i64 a_top), (.int .i64 a_n)].toArray w fun e w' => ∃ v, e = .returned v ∧ (VRep (RSlice RSpan) w' M r.1 v ∧ Own w' g 180 #[.slice Ax a_xs.length cx, .int .i64 r.2]) ∧ BX (One g) w w' := by
  obtain ⟨i140, hi140, hz140, hs140, hy140⟩ := info140
  have hX : ∀ b, (One g) b → M b := fun b e => e ▸ hgM
  have hC : Cx (One g) w M w M := Cx.start hO hX
  refine walk (N := 24) Tryd.func155 rfl Tryd.ntmps155 rfl ?_
  refine cw_seq ?_
  refine cw_region ?_
  refine lw_op rfl rfl rfl (ow_assign rfl rfl ?_)
  refine lw_nil ?_
  refine ew_then ?_
  refine cw_seq ?_
  refine cw_region ?_
  refine lw_op rfl rfl rfl (ow_buildSlice0 (R := RSpan) (e := 140) rfl (by kernel_rfl) hC fun p1 w1 M1 hr1 hb1 hl1 hC1 hM1 hat1 => ?_)
  have ho1 := hown.no hb1
  have hm1 := hM1 _ hgM
  refine lw_op rfl rfl rfl (ow_assign rfl rfl ?_)
  refine lw_nil ?_
  refine ew_then ?_
  refine cw_seq ?_
  refine cw_seq ?_
  refine cw_region ?_
  refine lw_op rfl rfl rfl (ow_move rfl rfl ?_)
  replace h := bind_some h
  obtain ⟨x1, hx1, h⟩ := h
  refine lw_op rfl rfl rfl (ow_call rfl rfl Tryd.call111 (w_spec_l20Rd_pick (hG.mono hl1) hC1.old (VRep.mono hl1 hxs) ho1 hm1 hx1) fun v1 w2 hv1 => ?_)
  obtain ⟨⟨hv1, ho2⟩, hb2⟩ := hv1
  have hl2 := Le.of_bx M1 hb2 (fun b e => (by rw [show b = g from e]; exact hm1))
  have hC2 := hC1.go hb2 (fun b e => Or.inr e)
  have hr2 := hr1.go hb2 (fun k hk e => (orow_ne hr1 ho1 (by decide)) (hk.trans (congrArg some e))) hl2 (fun _ h => h)
  obtain rfl := vint_eq hv1
  refine lw_op rfl rfl rfl (ow_assign rfl rfl ?_)
  refine lw_nil ?_
  refine ew_then ?_
  replace h := bind_some h
  obtain ⟨lr1, hlr1, h⟩ := h
  refine cw_for hlr1 (fun s a w' => ∃ (M' : Nat → Prop) (v0c : Value), Fits 24 [(0, (.pointer (some ⟨g, 0, none⟩))), (1, (.int .i64 a_top)), (2, (.int .i64 a_n)), (7, v0c), (8, (.int .i64 s.2.1))] a ∧ Le w2 M1 w' M' ∧ Cx (One g) w M w' M' ∧ OwnRow RSpan w.heap.size 140 w' M' s.1 v0c ∧ Own w' g 180 #[(.slice Ax a_xs.length cx), (.int .i64 s.2.2)] ∧ M' g) ?_ ?_ ?_
  · intro a ha
    exact ⟨M1, (.slice (some p1) 0 0), ha.sub ⟨rfl, rfl, rfl, rfl, rfl, trivial⟩, Le.refl _ _, hC2, hr2, ho2, hm1⟩
  · rintro ⟨y1, k1, k2⟩ a w3 sr1 ⟨M2, v2, hF1, hl3, hC3, hw1, ho3, hm2⟩ hb3 hR1
    refine cw_at (E := [(0, (.pointer (some ⟨g, 0, none⟩))), (1, (.int .i64 a_top)), (2, (.int .i64 a_n)), (7, v2), (8, (.int .i64 k1))]) hF1 ?_
    refine cw_seq ?_
    refine cw_seq ?_
    refine cw_region ?_
    refine lw_op rfl rfl rfl (ow_move rfl rfl ?_)
    refine lw_op rfl rfl rfl (ow_gtr rfl rfl rfl fun bb1 hbb1 => ?_)
    refine lw_nil ?_
    refine ew_then ?_
    replace hb3 := cond_some hb3
    rcases hb3 with ⟨hc1, hb3⟩ | ⟨hc1, hb3⟩
    · obtain rfl := hbb1.trans hc1
      refine cw_true rfl ?_
      refine cw_skip ?_
      refine ew_then ?_
      refine cw_seq ?_
      refine cw_block ?_
      refine cw_region ?_
      refine lw_op rfl rfl rfl (ow_move rfl rfl ?_)
      refine lw_op rfl rfl rfl (ow_move rfl rfl ?_)
      refine lw_op rfl rfl rfl (ow_move rfl rfl ?_)
      refine lw_op rfl rfl rfl (ow_move rfl rfl ?_)
      replace hb3 := bind_some hb3
      obtain ⟨x2, hx2, hb3⟩ := hb3
      refine lw_op rfl rfl rfl (ow_call rfl rfl Tryd.call156 (w_spec_l20Span (hG.mono ((hl1.trans hl2).trans hl3)) hC3.old (VRep.mono ((hl1.trans hl2).trans hl3) hxs) ho3 hm2 hx2) fun v5 w4 hv5 => ?_)
      obtain ⟨⟨hv5, ho4⟩, hb4⟩ := hv5
      have hl4 := Le.of_bx M2 hb4 (fun b e => (by rw [show b = g from e]; exact hm2))
      have hC4 := hC3.go hb4 (fun b e => Or.inr e)
      have hr3 := hw1.go hb4 (fun k hk e => (orow_ne hw1 ho3 (by decide)) (hk.trans (congrArg some e))) hl4 (fun _ h => h)
      obtain rfl := open_Span hv5
      refine lw_op rfl rfl rfl (ow_buildSlice (R := RSpan) (xs := [x2.1]) (cs := #[(.int .i64 x2.1.Lo), (.int .i64 x2.1.Hi)]) (e := 140) rfl rfl (by kernel_rfl) rfl rfl ⟨_, _, rfl, hv5.cells, rfl⟩ hC4 fun p2 w5 hw2 hb5 hl5 hC5 => ?_)
      have ho5 := ho4.no hb5
      have hr4 := hr3.no hb5
      replace hb3 := bind_some hb3
      obtain ⟨z1, hz1, hb3⟩ := hb3
      refine lw_op rfl rfl rfl (ow_append (R := RSpan) rfl rfl rfl rfl Tryd.underlying93 hi140 hz140 hs140 hy140 rfl rfl rfl rfl hr4 hw2 hz1 hC5 fun v6 w6 M3 hr5 hb6 hl6 hC6 hM2 hat2 => ?_)
      have ho6 := ho5.go hb6 (fun e => (orow_ne hr4 ho5 (by decide)) e)
      have hm3 := hM2 _ hm2
      refine lw_op rfl rfl rfl (ow_assign rfl rfl ?_)
      refine lw_nil ?_
      refine ew_blockN ?_
      refine ew_then ?_
      refine cw_region ?_
      refine lw_op rfl rfl rfl (ow_move rfl rfl ?_)
      refine lw_op rfl rfl rfl (ow_sub rfl rfl rfl ?_)
      refine lw_op rfl rfl rfl (ow_assign rfl rfl ?_)
      refine lw_nil ?_
      refine ew_nxt (z1, (W (k1 - 1)), x2.2) hb3 fun a ha => ⟨M3, v6, ?_, (((hl3.trans hl4).trans hl5).trans hl6), hC6, hr5, ho6, hm3⟩
      exact ha.sub ⟨rfl, rfl, rfl, rfl, rfl, trivial⟩
    · obtain rfl := hbb1.trans hc1
      refine cw_false rfl ?_
      refine cw_exit ?_
      refine ew_thenX ?_
      refine ew_thenX ?_
      refine ew_blockX ?_
      refine ew_brk (y1, k1, k2) hb3 fun a ha => ⟨M2, v2, ?_, hl3, hC3, hw1, ho3, hm2⟩
      exact ha.sub ⟨rfl, rfl, rfl, rfl, rfl, trivial⟩
  · rintro ⟨y2, k3, k4⟩ a w7 hlr2 ⟨M4, v7, hF2, hl7, hC7, hw3, ho7, hm4⟩
    subst hlr2
    refine ew_at (E := [(0, (.pointer (some ⟨g, 0, none⟩))), (1, (.int .i64 a_top)), (2, (.int .i64 a_n)), (7, v7), (8, (.int .i64 k3))]) hF2 ?_
    refine ew_then ?_
    refine cw_seq ?_
    refine cw_region ?_
    refine lw_op rfl rfl rfl (ow_move rfl rfl ?_)
    refine lw_op rfl rfl rfl (ow_assign rfl rfl ?_)
    refine lw_nil ?_
    refine ew_then ?_
    refine cw_ret ?_
    obtain rfl := Option.some.inj h
    exact ew_ret (res1 rfl (.tmp rfl)) ⟨_, rfl, ⟨(hw3.freezeBack hC7 hO), ho7⟩, hC7.bx⟩

theorem w_spec_l20Set {w : World} {M : Nat → Prop} (hG : ARep (RArr 4 RShape) w M shapes ⟨0, 0, none⟩) (hO : ∀ b, M b → b < w.heap.size) {g : Nat} {Ax : Option Addr} {cx : Nat} {a_xs : List Int} {a_pos : Int} (hxs : VRep (RSlice RU8) w M a_xs (.slice Ax a_xs.length cx)) (hown : Own w g 180 #[.slice Ax a_xs.length cx, .int .i64 a_pos]) (hgM : M g) {a_top : Int} {a_n : Int} {r : ((List Span)) × Int} (h : F.spec_l20Set a_xs a_pos a_top a_n = some r) :
    Calls Tryd.prog 143 [(.pointer (some ⟨g, 0, none⟩)), (.int .i64 a_top), (.int .i64 a_n)].toArray w fun e w' => ∃ v, e = .returned v ∧ (VRep (RSlice RSpan) w' M r.1 v ∧ Own w' g 180 #[.slice Ax a_xs.length cx, .int .i64 r.2]) ∧ BX (One g) w w' := by
  obtain ⟨i140, hi140, hz140, hs140, hy140⟩ := info140
  have hX : ∀ b, (One g) b → M b := fun b e => e ▸ hgM
  have hC : Cx (One g) w M w M := Cx.start hO hX
  refine walk (N := 35) Tryd.func143 rfl Tryd.ntmps143 rfl ?_
  refine cw_seq ?_
  refine cw_region ?_
  refine lw_op rfl rfl rfl (ow_assign rfl rfl ?_)
  refine lw_nil ?_
  refine ew_then ?_
  refine cw_seq ?_
  refine cw_region ?_
  refine lw_op rfl rfl rfl (ow_move rfl rfl ?_)
  refine lw_op rfl rfl rfl (ow_move rfl rfl ?_)
  replace h := bind_some h
  obtain ⟨x1, hx1, h⟩ := h
  refine lw_op rfl rfl rfl (ow_call rfl rfl Tryd.call155 (w_spec_l20Raw hG hC.old hxs hown hgM hx1) fun v1 w1 hv1 => ?_)
  obtain ⟨⟨hv1, ho1⟩, hb1⟩ := hv1
  have hl1 := Le.of_bx M hb1 (fun b e => (by rw [show b = g from e]; exact hgM))
  have hC1 := hC.go hb1 (fun b e => Or.inr e)
  refine lw_op rfl rfl rfl (ow_move rfl rfl ?_)
  replace h := bind_some h
  obtain ⟨x2, hx2, h⟩ := h
  refine lw_op rfl rfl rfl (ow_call rfl rfl Tryd.call154 (wo_spec_SpansOf (hG.mono hl1) hC1.old hv1 hx2) fun v2 w2 hv2 => ?_)
  obtain ⟨⟨M1, hr1, hk1⟩, hb2⟩ := hv2
  replace hr1 := hr1.base hC1.bx.size
  have hl2 := hk1.le
  have hC2 := hC1.trans hk1
  have ho2 := ho1.no hb2
  have hm1 := hk1.sup _ hgM
  refine lw_op rfl rfl rfl (ow_assign rfl rfl ?_)
  refine lw_nil ?_
  refine ew_then ?_
  refine cw_seq ?_
  refine cw_seq ?_
  refine cw_region ?_
  refine lw_op rfl rfl rfl (ow_move rfl rfl ?_)
  refine lw_op rfl rfl rfl (ow_move rfl rfl ?_)
  replace h := bind_some h
  obtain ⟨x3, hx3, h⟩ := h
  refine lw_op rfl rfl rfl (ow_call rfl rfl Tryd.call136 (w_spec_l20Rd_odd (hG.mono (hl1.trans hl2)) hC2.old (VRep.mono (hl1.trans hl2) hxs) ho2 hm1 hx3) fun v3 w3 hv3 => ?_)
  obtain ⟨⟨hv3, ho3⟩, hb3⟩ := hv3
  have hl3 := Le.of_bx M1 hb3 (fun b e => (by rw [show b = g from e]; exact hm1))
  have hC3 := hC2.go hb3 (fun b e => Or.inr e)
  have hr2 := hr1.go hb3 (fun k hk e => (orow_ne hr1 ho2 (by decide)) (hk.trans (congrArg some e))) hl3 (fun _ h => h)
  obtain ⟨bb1, hbb1, rfl⟩ := vbool_ex hv3
  refine lw_nil ?_
  refine ew_then ?_
  replace h := cond_some h
  rcases h with ⟨hc1, h⟩ | ⟨hc1, h⟩
  · obtain rfl := hbb1.trans hc1
    refine cw_true rfl ?_
    refine cw_seq ?_
    refine cw_region ?_
    refine lw_op rfl rfl rfl (ow_move rfl rfl ?_)
    replace h := bind_some h
    obtain ⟨x4, hx4, h⟩ := h
    refine lw_op rfl rfl rfl (ow_call rfl rfl Tryd.call111 (w_spec_l20Rd_pick (hG.mono ((hl1.trans hl2).trans hl3)) hC3.old (VRep.mono ((hl1.trans hl2).trans hl3) hxs) ho3 hm1 hx4) fun v4 w4 hv4 => ?_)
    obtain ⟨⟨hv4, ho4⟩, hb4⟩ := hv4
    have hl4 := Le.of_bx M1 hb4 (fun b e => (by rw [show b = g from e]; exact hm1))
    have hC4 := hC3.go hb4 (fun b e => Or.inr e)
    have hr3 := hr2.go hb4 (fun k hk e => (orow_ne hr2 ho3 (by decide)) (hk.trans (congrArg some e))) hl4 (fun _ h => h)
    obtain rfl := vint_eq hv4
    refine lw_nil ?_
    refine ew_then ?_
    refine cw_block ?_
    refine cw_seq ?_
    refine cw_region ?_
    refine lw_op rfl rfl rfl (ow_eqlI rfl rfl rfl fun bb2 hbb2 => ?_)
    refine lw_op rfl rfl rfl (ow_assign rfl rfl ?_)
    refine lw_nil ?_
    refine ew_then ?_
    replace h := cond_some h
    rcases h with ⟨hc2, h⟩ | ⟨hc2, h⟩
    · obtain rfl := hbb2.trans hc2
      refine cw_true rfl ?_
      refine cw_region ?_
      refine lw_op rfl rfl rfl (ow_move rfl rfl ?_)
      refine lw_op rfl rfl rfl (ow_move rfl rfl ?_)
      refine lw_op rfl rfl rfl (ow_move rfl rfl ?_)
      replace h := bind_some h
      obtain ⟨x5, hx5, h⟩ := h
      refine lw_op rfl rfl rfl (ow_call rfl rfl Tryd.call156 (w_spec_l20Span (hG.mono (((hl1.trans hl2).trans hl3).trans hl4)) hC4.old (VRep.mono (((hl1.trans hl2).trans hl3).trans hl4) hxs) ho4 hm1 hx5) fun v5 w5 hv5 => ?_)
      obtain ⟨⟨hv5, ho5⟩, hb5⟩ := hv5
      have hl5 := Le.of_bx M1 hb5 (fun b e => (by rw [show b = g from e]; exact hm1))
      have hC5 := hC4.go hb5 (fun b e => Or.inr e)
      have hr4 := hr3.go hb5 (fun k hk e => (orow_ne hr3 ho4 (by decide)) (hk.trans (congrArg some e))) hl5 (fun _ h => h)
      obtain rfl := open_Span hv5
      refine lw_op rfl rfl rfl (ow_buildSlice (R := RSpan) (xs := [x5.1]) (cs := #[(.int .i64 x5.1.Lo), (.int .i64 x5.1.Hi)]) (e := 140) rfl rfl (by kernel_rfl) rfl rfl ⟨_, _, rfl, hv5.cells, rfl⟩ hC5 fun p1 w6 hw1 hb6 hl6 hC6 => ?_)
      have ho6 := ho5.no hb6
      have hr5 := hr4.no hb6
      replace h := bind_some h
      obtain ⟨z1, hz1, h⟩ := h
      refine lw_op rfl rfl rfl (ow_append (R := RSpan) rfl rfl rfl rfl Tryd.underlying93 hi140 hz140 hs140 hy140 rfl rfl rfl rfl hr5 hw1 hz1 hC6 fun v6 w7 M2 hr6 hb7 hl7 hC7 hM1 hat1 => ?_)
      have ho7 := ho6.go hb7 (fun e => (orow_ne hr5 ho6 (by decide)) e)
      have hm2 := hM1 _ hm1
      refine lw_op rfl rfl rfl (ow_assign rfl rfl ?_)
      refine lw_nil ?_
      refine ew_blockN ?_
      refine ew_then ?_
      refine cw_seq ?_
      refine cw_region ?_
      refine lw_op rfl rfl rfl (ow_move rfl rfl ?_)
      refine lw_op rfl rfl rfl (ow_assign rfl rfl ?_)
      refine lw_nil ?_
      refine ew_then ?_
      refine cw_ret ?_
      obtain rfl := Option.some.inj h
      exact ew_ret (res1 rfl (.tmp rfl)) ⟨_, rfl, ⟨(hr6.freezeBack hC7 hO), ho7⟩, hC7.bx⟩
    · obtain rfl := hbb2.trans hc2
      refine cw_false rfl ?_
      refine cw_seq ?_
      refine cw_region ?_
      refine lw_op rfl rfl rfl (ow_eqlI rfl rfl rfl fun bb3 hbb3 => ?_)
      refine lw_op rfl rfl rfl (ow_assign rfl rfl ?_)
      refine lw_nil ?_
      refine ew_then ?_
      replace h := cond_some h
      rcases h with ⟨hc3, h⟩ | ⟨hc3, h⟩
      · obtain rfl := hbb3.trans hc3
        refine cw_true rfl ?_
        refine cw_region ?_
        refine lw_op rfl rfl rfl (ow_move rfl rfl ?_)
        refine lw_op rfl rfl rfl (ow_build (v := .agg #[(.int .i64 1), (.int .i64 2)]) rfl rfl (by kernel_rfl) ?_)
        have hw2 : VRep RSpan w4 M1 ({ Lo := 1, Hi := 2 } : Span) (.agg #[(.int .i64 1), (.int .i64 2)]) := shut_Span
        refine lw_op rfl rfl rfl (ow_build (v := .agg #[(.int .i64 3), (.int .i64 3)]) rfl rfl (by kernel_rfl) ?_)
        have hw3 : VRep RSpan w4 M1 ({ Lo := 3, Hi := 3 } : Span) (.agg #[(.int .i64 3), (.int .i64 3)]) := shut_Span
        refine lw_op rfl rfl rfl (ow_buildSlice (R := RSpan) (xs := [({ Lo := 1, Hi := 2 } : Span), ({ Lo := 3, Hi := 3 } : Span)]) (cs := #[(.int .i64 1), (.int .i64 2), (.int .i64 3), (.int .i64 3)]) (e := 140) rfl rfl (by kernel_rfl) rfl rfl ⟨_, _, rfl, hw2.cells, _, _, rfl, hw3.cells, rfl⟩ hC4 fun p2 w8 hw4 hb8 hl8 hC8 => ?_)
        have ho8 := ho4.no hb8
        have hr7 := hr3.no hb8
        replace h := bind_some h
        obtain ⟨z2, hz2, h⟩ := h
        refine lw_op rfl rfl rfl (ow_append (R := RSpan) rfl rfl rfl rfl Tryd.underlying93 hi140 hz140 hs140 hy140 rfl rfl rfl rfl hr7 hw4 hz2 hC8 fun v7 w9 M3 hr8 hb9 hl9 hC9 hM2 hat2 => ?_)
        have ho9 := ho8.go hb9 (fun e => (orow_ne hr7 ho8 (by decide)) e)
        have hm3 := hM2 _ hm1
        refine lw_op rfl rfl rfl (ow_assign rfl rfl ?_)
        refine lw_nil ?_
        refine ew_blockN ?_
        refine ew_then ?_
        refine cw_seq ?_
        refine cw_region ?_
        refine lw_op rfl rfl rfl (ow_move rfl rfl ?_)
        refine lw_op rfl rfl rfl (ow_assign rfl rfl ?_)
        refine lw_nil ?_
        refine ew_then ?_
        refine cw_ret ?_
        obtain rfl := Option.some.inj h
        exact ew_ret (res1 rfl (.tmp rfl)) ⟨_, rfl, ⟨(hr8.freezeBack hC9 hO), ho9⟩, hC9.bx⟩
      · obtain rfl := hbb3.trans hc3
        refine cw_false rfl ?_
        refine cw_region ?_
        replace h := bind_some h
        obtain ⟨mk1, hmk1, h⟩ := h
        refine lw_op rfl rfl rfl (ow_make (R := RSpan) rfl rfl rfl Tryd.underlying93 hi140 hz140 hs140 hy140 rfl rfl (shut_Span) hmk1 hC4 fun v8 w10 M4 hr9 hb10 hl10 hC10 hM3 hat3 => ?_)
        have ho10 := ho4.no hb10
        have hm4 := hM3 _ hm1
        have hr10 := hr3.go hb10 (fun _ _ e => e) hl10 hM3
        refine lw_op rfl rfl rfl (ow_assign rfl rfl ?_)
        refine lw_nil ?_
        refine ew_blockN ?_
        refine ew_then ?_
        refine cw_seq ?_
        refine cw_region ?_
        refine lw_op rfl rfl rfl (ow_move rfl rfl ?_)
        refine lw_op rfl rfl rfl (ow_assign rfl rfl ?_)
        refine lw_nil ?_
        refine ew_then ?_
        refine cw_ret ?_
        obtain rfl := Option.some.inj h
        exact ew_ret (res1 rfl (.tmp rfl)) ⟨_, rfl, ⟨(hr9.freezeBack hC10 hO), ho10⟩, hC10.bx⟩
  · obtain rfl := hbb1.trans hc1
    refine cw_false rfl ?_
    refine cw_skip ?_
    refine ew_then ?_
    refine cw_seq ?_
    refine cw_region ?_
    refine lw_op rfl rfl rfl (ow_move rfl rfl ?_)
    refine lw_op rfl rfl rfl (ow_assign rfl rfl ?_)
    refine lw_nil ?_
    refine ew_then ?_
    refine cw_ret ?_
    obtain rfl := Option.some.inj h
    exact ew_ret (res1 rfl (.tmp rfl)) ⟨_, rfl, ⟨(hr2.freezeBack hC3 hO), ho3⟩, hC3.bx⟩


end Go.PF
