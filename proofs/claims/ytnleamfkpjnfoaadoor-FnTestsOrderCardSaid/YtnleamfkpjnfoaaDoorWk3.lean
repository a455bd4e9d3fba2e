/- The walks; no condition. -/
import Derived.Test.YtnleamfkpjnfoaaDoorProg
import Derived.Test.YtnleamfkpjnfoaaDoorWk2
import Derived.Test.YtnleamfkpjnfoaaDoorPFLate
set_option maxRecDepth 100000
set_option maxHeartbeats 4000000
namespace Go.PF
open Go Go.RowKit Go.Proofs

theorem w_spec_BoxAll {w : World} {M : Nat → Prop} (hG : ARep (RArr 4 RShape) w M shapes ⟨0, 0, none⟩) (hO : ∀ b, M b → b < w.heap.size)  {r : Box} (h : F.spec_BoxAll = some r) :
    Calls Tryd.prog 59 [].toArray w fun e w' => ∃ v, e = .returned v ∧ VRep RBox w' M r v ∧ BX No w w' := by
  obtain ⟨i58, hi58, hz58, hs58, hy58⟩ := info58
  have hC : Cx No w M w M := Cx.start hO (fun _ e => e.elim)
  refine walk (N := 18) Tryd.func59 rfl Tryd.ntmps59 rfl ?_
  refine cw_seq ?_
  refine cw_region ?_
  refine lw_op rfl rfl rfl (ow_alloc rfl (Tryd.zeroValue27 _) hC fun g1 w1 hg1 hg2 ho1 hb1 hl1 hC1 => ?_)
  have hm1 : (Add g1 M) g1 := .inl rfl
  refine lw_nil ?_
  refine ew_then ?_
  refine cw_seq ?_
  refine cw_region ?_
  refine lw_op rfl rfl rfl (ow_build (v := .agg #[(.slice none 0 0)]) rfl rfl (by kernel_rfl) ?_)
  have hw1 : VRep RBox w1 (Add g1 M) ({ Sides := ([] : List (List Span)) } : Box) (.agg #[(.slice none 0 0)]) := shut_Box (vslice_nil (R := (RSlice RSpan)) (w := w1) (M := (Add g1 M)))
  refine lw_op rfl rfl rfl (ow_alloc rfl (Tryd.zeroValue27 _) hC1 fun g2 w2 hg3 hg4 ho2 hb2 hl2 hC2 => ?_)
  have hn1 := Nat.ne_of_lt (Nat.lt_of_lt_of_le ho1.lt hg3)
  have ho3 := ho1.no hb2
  have hm2 : (Add g2 (Add g1 M)) g1 := .inr hm1
  have hm3 : (Add g2 (Add g1 M)) g2 := .inl rfl
  refine lw_op0 rfl rfl (ow_store (X := No) (us := [(.slice none 0 0)]) (cs' := #[(.slice none 0 0)]) rfl rfl rfl rfl ho2 (Tryd.sizeOf27 _) rfl rfl rfl rfl hm3 (.inl hg4) rfl hC2 fun w3 ho4 hb3 hl3 hC3 => ?_)
  have ho5 := ho3.go hb3 (fun e => hn1 e)
  refine lw_nil ?_
  refine ew_then ?_
  refine cw_seq ?_
  refine cw_seq ?_
  refine cw_region ?_
  refine lw_op rfl rfl rfl (ow_assign rfl rfl ?_)
  refine lw_nil ?_
  refine ew_then ?_
  have hr1 : OwnRow (RSlice RSpan) w.heap.size 58 w3 (Add g2 (Add g1 M)) ([] : List (List Span)) (.slice none 0 0) := ownrow_nil
  replace h := bind_some h
  obtain ⟨lr1, hlr1, h⟩ := h
  refine cw_for hlr1 (fun s a w' => ∃ (M' : Nat → Prop) (v1c : Value), Fits 18 [(0, (.pointer (some ⟨g1, 0, none⟩))), (1, (.pointer (some ⟨g2, 0, none⟩))), (2, (.int .i64 s.1))] a ∧ Le w3 (Add g2 (Add g1 M)) w' M' ∧ Cx No w M w' M' ∧ OwnRow (RSlice RSpan) w.heap.size 58 w' M' s.2 v1c ∧ Own w' g1 27 #[(.slice none 0 0)] ∧ M' g1 ∧ Own w' g2 27 #[v1c] ∧ M' g2) ?_ ?_ ?_
  · intro a ha
    exact ⟨(Add g2 (Add g1 M)), (.slice none 0 0), ha.sub ⟨rfl, rfl, rfl, trivial⟩, Le.refl _ _, hC3, hr1, ho5, hm2, ho4, hm3⟩
  · rintro ⟨k1, y1⟩ a w4 sr1 ⟨M1, v2, hF1, hl4, hC4, hw2, ho6, hm4, ho7, hm5⟩ hb4 hR1
    refine cw_at (E := [(0, (.pointer (some ⟨g1, 0, none⟩))), (1, (.pointer (some ⟨g2, 0, none⟩))), (2, (.int .i64 k1))]) hF1 ?_
    refine cw_seq ?_
    refine cw_seq ?_
    refine cw_region ?_
    refine lw_op rfl rfl rfl (ow_move rfl rfl ?_)
    refine lw_op rfl rfl rfl (ow_lss rfl rfl rfl fun bb1 hbb1 => ?_)
    refine lw_nil ?_
    refine ew_then ?_
    replace hb4 := cond_some hb4
    rcases hb4 with ⟨hc1, hb4⟩ | ⟨hc1, hb4⟩
    · obtain rfl := hbb1.trans hc1
      refine cw_true rfl ?_
      refine cw_skip ?_
      refine ew_then ?_
      refine cw_seq ?_
      refine cw_block ?_
      replace hb4 := bind_some hb4
      obtain ⟨x1, hx1, hb4⟩ := hb4
      refine cw_sub (E' := [(0, (.pointer (some ⟨g1, 0, none⟩))), (1, (.pointer (some ⟨g2, 0, none⟩))), (2, (.int .i64 k1))]) ⟨rfl, rfl, rfl, trivial⟩ ?_
      refine cw_drawQ 7 [PEq (.pointer (some ⟨g2, 0, none⟩)), PEq v2, PEq (.int .i64 k1), PEq (.int .i64 x1), PV RSpan M1 ({ Lo := 0, Hi := x1 } : Span), PV (RSlice RSpan) M1 [({ Lo := 0, Hi := x1 } : Span)], PV (RSlice (RSlice RSpan)) M1 [[({ Lo := 0, Hi := x1 } : Span)]]] (by kernel_rfl) rfl (by kernel_rfl) ⟨PEq.mono _, PEq.mono _, PEq.mono _, PEq.mono _, PV.mono _ _ _, PV.mono _ _ _, PV.mono _ _ _, trivial⟩ ⟨?_, ?_, ?_, ?_, ?_, ?_, ?_, trivial⟩ ?_
      · intro w8 D hS1 hd1
        have hl8 := Le.no M1 hS1
        have hC8 := hC4.no hS1
        have ho14 := ho6.no hS1
        have ho15 := ho7.no hS1
        have hr5 := hw2.no hS1
        refine dg_sub (E' := [(1, (.pointer (some ⟨g2, 0, none⟩)))]) ⟨rfl, trivial⟩ ?_
        refine dg_plain rfl (ow_fieldAddr rfl rfl Tryd.underlying27 rfl (Tryd.sizeOf25 _) ?_)
        exact ⟨BX.refl _ _, rfl⟩
      · intro w9 D hS2 hd2
        have hl9 := Le.no M1 hS2
        have hC9 := hC4.no hS2
        have ho16 := ho6.no hS2
        have ho17 := ho7.no hS2
        have hr6 := hw2.no hS2
        have hd2 : PEq (.pointer (some ⟨g2, 0, none⟩)) (D 0) w9 ∧ True := hd2
        obtain ⟨d1, -⟩ := hd2
        refine dg_sub (E' := [(8, (.pointer (some ⟨g2, 0, none⟩)))]) ⟨(congrArg some d1), trivial⟩ ?_
        refine dg_plain rfl (ow_loadOwn1 rfl rfl rfl ho17 (Tryd.isAgg25 _) rfl ?_)
        exact ⟨BX.refl _ _, rfl⟩
      · intro w10 D hS3 hd3
        have hl10 := Le.no M1 hS3
        have hC10 := hC4.no hS3
        have ho18 := ho6.no hS3
        have ho19 := ho7.no hS3
        have hr7 := hw2.no hS3
        refine dg_sub (E' := [(2, (.int .i64 k1))]) ⟨rfl, trivial⟩ ?_
        refine dg_plain rfl (ow_move rfl rfl ?_)
        exact ⟨BX.refl _ _, rfl⟩
      · intro w11 D hS4 hd4
        have hl11 := Le.no M1 hS4
        have hC11 := hC4.no hS4
        have ho20 := ho6.no hS4
        have ho21 := ho7.no hS4
        have hr8 := hw2.no hS4
        have hd4 : PEq (.int .i64 k1) (D 2) w11 ∧ True := hd4
        obtain ⟨d2, -⟩ := hd4
        refine dg_sub (E' := [(10, (.int .i64 k1))]) ⟨(congrArg some d2), trivial⟩ ?_
        refine dg_plain rfl (ow_call rfl rfl Tryd.call81 (w_spec_FieldTop (hG.mono ((((hl1.trans hl2).trans hl3).trans hl4).trans hl11)) hC11.old hx1) fun v4 w12 hv4 => ?_)
        obtain ⟨hv4, hb8⟩ := hv4
        have hl12 := Le.no M1 hb8
        have hC12 := hC11.no hb8
        have ho22 := ho20.no hb8
        have ho23 := ho21.no hb8
        have hr9 := hr8.no hb8
        obtain rfl := vint_eq hv4
        exact ⟨hb8, rfl⟩
      · intro w13 D hS5 hd5
        have hl13 := Le.no M1 hS5
        have hC13 := hC4.no hS5
        have ho24 := ho6.no hS5
        have ho25 := ho7.no hS5
        have hr10 := hw2.no hS5
        have hd5 : PEq (.int .i64 x1) (D 3) w13 ∧ True := hd5
        obtain ⟨d3, -⟩ := hd5
        refine dg_sub (E' := [(11, (.int .i64 x1))]) ⟨(congrArg some d3), trivial⟩ ?_
        refine dg_plain rfl (ow_build (v := .agg #[(.int .i64 0), (.int .i64 x1)]) rfl rfl (by kernel_rfl) ?_)
        have hw6 : VRep RSpan w13 M1 ({ Lo := 0, Hi := x1 } : Span) (.agg #[(.int .i64 0), (.int .i64 x1)]) := shut_Span
        exact ⟨BX.refl _ _, hw6⟩
      · intro w14 D hS6 hd6
        have hl14 := Le.no M1 hS6
        have hC14 := hC4.no hS6
        have ho26 := ho6.no hS6
        have ho27 := ho7.no hS6
        have hr11 := hw2.no hS6
        have hd6 : PV RSpan M1 ({ Lo := 0, Hi := x1 } : Span) (D 4) w14 ∧ True := hd6
        obtain ⟨d4, -⟩ := hd6
        obtain ⟨v5, hq1⟩ : ∃ v, (D 4) = v := ⟨_, rfl⟩
        rw [hq1] at d4
        refine dg_sub (E' := [(12, v5)]) ⟨(congrArg some hq1), trivial⟩ ?_
        obtain rfl := open_Span d4
        refine dg_plain rfl (ow_buildSlice (R := RSpan) (xs := [({ Lo := 0, Hi := x1 } : Span)]) (cs := #[(.int .i64 ({ Lo := 0, Hi := x1 } : Span).Lo), (.int .i64 ({ Lo := 0, Hi := x1 } : Span).Hi)]) (e := 76) rfl rfl (by kernel_rfl) rfl rfl ⟨_, _, rfl, d4.cells, rfl⟩ hC14 fun p3 w15 hw7 hb9 hl15 hC15 => ?_)
        have ho28 := ho26.no hb9
        have ho29 := ho27.no hb9
        have hr12 := hr11.no hb9
        exact ⟨hb9, hw7⟩
      · intro w16 D hS7 hd7
        have hl16 := Le.no M1 hS7
        have hC16 := hC4.no hS7
        have ho30 := ho6.no hS7
        have ho31 := ho7.no hS7
        have hr13 := hw2.no hS7
        have hd7 : PV (RSlice RSpan) M1 [({ Lo := 0, Hi := x1 } : Span)] (D 5) w16 ∧ True := hd7
        obtain ⟨d5, -⟩ := hd7
        obtain ⟨v6, hq2⟩ : ∃ v, (D 5) = v := ⟨_, rfl⟩
        rw [hq2] at d5
        refine dg_sub (E' := [(13, v6)]) ⟨(congrArg some hq2), trivial⟩ ?_
        obtain ⟨A1, c1, rfl, -⟩ := vslice_shape d5
        refine dg_plain rfl (ow_buildSlice (R := (RSlice RSpan)) (xs := [[({ Lo := 0, Hi := x1 } : Span)]]) (cs := #[(.slice A1 [({ Lo := 0, Hi := x1 } : Span)].length c1)]) (e := 58) rfl rfl (by kernel_rfl) rfl rfl ⟨_, _, rfl, d5.cells, rfl⟩ hC16 fun p4 w17 hw8 hb10 hl17 hC17 => ?_)
        have ho32 := ho30.no hb10
        have ho33 := ho31.no hb10
        have hr14 := hr13.no hb10
        exact ⟨hb10, hw8⟩
      · intro w18 D hS8 hd8
        have hl18 := Le.no M1 hS8
        have hC18 := hC4.no hS8
        have ho34 := ho6.no hS8
        have ho35 := ho7.no hS8
        have hr15 := hw2.no hS8
        have hd8 : PEq (.pointer (some ⟨g2, 0, none⟩)) (D 0) w18 ∧ PEq v2 (D 1) w18 ∧ PEq (.int .i64 k1) (D 2) w18 ∧ PEq (.int .i64 x1) (D 3) w18 ∧ PV RSpan M1 ({ Lo := 0, Hi := x1 } : Span) (D 4) w18 ∧ PV (RSlice RSpan) M1 [({ Lo := 0, Hi := x1 } : Span)] (D 5) w18 ∧ PV (RSlice (RSlice RSpan)) M1 [[({ Lo := 0, Hi := x1 } : Span)]] (D 6) w18 ∧ True := hd8
        obtain ⟨-, d7, -, -, -, -, d12, -⟩ := hd8
        obtain ⟨v7, hq3⟩ : ∃ v, (D 6) = v := ⟨_, rfl⟩
        rw [hq3] at d12
        refine lw_sub (E' := [(9, v2), (14, v7), (0, (.pointer (some ⟨g1, 0, none⟩))), (1, (.pointer (some ⟨g2, 0, none⟩))), (2, (.int .i64 k1))]) ⟨(congrArg some d7), (congrArg some hq3), rfl, rfl, rfl, trivial⟩ ?_
        replace hb4 := bind_some hb4
        obtain ⟨z1, hz1, hb4⟩ := hb4
        refine lw_op rfl rfl rfl (ow_append (R := (RSlice RSpan)) rfl rfl rfl rfl Tryd.underlying25 hi58 hz58 hs58 hy58 rfl rfl rfl rfl hr15 d12 hz1 hC18 fun v8 w19 M2 hr16 hb11 hl19 hC19 hM1 hat1 => ?_)
        have ho36 := ho34.go hb11 (fun e => (orow_ne hr15 ho34 (by decide)) e)
        have hm6 := hM1 _ hm4
        have ho37 := ho35.go hb11 (fun e => (orow_ne hr15 ho35 (by decide)) e)
        have hm7 := hM1 _ hm5
        refine lw_op rfl rfl rfl (ow_fieldAddr rfl rfl Tryd.underlying27 rfl (Tryd.sizeOf25 _) ?_)
        obtain ⟨A2, c2, rfl⟩ := hr16.len
        refine lw_op0 rfl rfl (ow_store (X := No) (us := [(.slice A2 z1.length c2)]) (cs' := #[(.slice A2 z1.length c2)]) rfl rfl rfl rfl ho37 (Tryd.sizeOf25 _) rfl rfl rfl rfl hm7 (.inl hg4) rfl hC19 fun w20 ho38 hb12 hl20 hC20 => ?_)
        have ho39 := ho36.go hb12 (fun e => hn1 e)
        have hr17 := hr16.go hb12 (fun k hk e => (orow_ne hr16 ho37 (by decide)) (hk.trans (congrArg some e))) hl20 (fun _ h => h)
        refine lw_nil ?_
        refine ew_blockN ?_
        refine ew_then ?_
        refine cw_region ?_
        refine lw_op rfl rfl rfl (ow_move rfl rfl ?_)
        refine lw_op rfl rfl rfl (ow_add rfl rfl rfl ?_)
        refine lw_op rfl rfl rfl (ow_assign rfl rfl ?_)
        refine lw_nil ?_
        refine ew_nxt ((W (k1 + 1)), z1) hb4 fun a ha => ⟨M2, (.slice A2 z1.length c2), ?_, (((hl4.trans hl18).trans hl19).trans hl20), hC20, hr17, ho39, hm6, ho38, hm7⟩
        exact ha.sub ⟨rfl, rfl, rfl, trivial⟩
    · obtain rfl := hbb1.trans hc1
      refine cw_false rfl ?_
      refine cw_exit ?_
      refine ew_thenX ?_
      refine ew_thenX ?_
      refine ew_blockX ?_
      refine ew_brk (k1, y1) hb4 fun a ha => ⟨M1, v2, ?_, hl4, hC4, hw2, ho6, hm4, ho7, hm5⟩
      exact ha.sub ⟨rfl, rfl, rfl, trivial⟩
  · rintro ⟨k2, y2⟩ a w21 hlr2 ⟨M3, v10, hF2, hl21, hC21, hw9, ho40, hm8, ho41, hm9⟩
    subst hlr2
    refine ew_at (E := [(0, (.pointer (some ⟨g1, 0, none⟩))), (1, (.pointer (some ⟨g2, 0, none⟩))), (2, (.int .i64 k2))]) hF2 ?_
    refine ew_then ?_
    refine cw_seq ?_
    refine cw_region ?_
    refine lw_op rfl rfl rfl (ow_loadOwnA rfl rfl rfl ho41 (Tryd.isAgg27 _) (Tryd.sizeOf27 _) rfl ?_)
    have hw10 := hw9.freezeDel
    have hC22 := hw9.cxDel hC21 (fun _ e => e.elim) hO
    have hl22 := Le.del w21 M3 v10
    have hm10 : (Del v10 M3) g1 := ⟨hm8, fun e => (orow_ne hw9 ho40 (by decide)) e⟩
    have hm11 : (Del v10 M3) g2 := ⟨hm9, fun e => (orow_ne hw9 ho41 (by decide)) e⟩
    obtain ⟨A3, c3, rfl, -⟩ := vslice_shape hw10
    have hw11 : VRep RBox w21 (Del (.slice A3 y2.length c3) M3) ({ Sides := y2 } : Box) (.agg #[(.slice A3 y2.length c3)]) := shut_Box hw10
    refine lw_op0 rfl rfl (ow_store (X := No) (us := [(.slice A3 y2.length c3)]) (cs' := #[(.slice A3 y2.length c3)]) rfl rfl rfl rfl ho40 (Tryd.sizeOf27 _) rfl rfl rfl rfl hm10 (.inl hg2) rfl hC22 fun w22 ho42 hb13 hl23 hC23 => ?_)
    have ho43 := ho41.go hb13 (fun e => hn1 e.symm)
    refine lw_nil ?_
    refine ew_then ?_
    refine cw_ret ?_
    have hw12 : VRep RBox w22 (Del (.slice A3 y2.length c3) M3) ({ Sides := y2 } : Box) (.agg #[(.slice A3 y2.length c3)]) := shut_Box (VRep.mono hl23 hw10)
    obtain rfl := Option.some.inj h
    exact ew_ret (res1 rfl (.cell rfl (own_loadVarA ho42 (Tryd.isAgg27 _) (Tryd.sizeOf27 _) rfl))) ⟨_, rfl, (hw12.mono hC23.back), hC23.bx⟩

theorem wo_spec_BoxAll {w : World} {M : Nat → Prop} (hG : ARep (RArr 4 RShape) w M shapes ⟨0, 0, none⟩) (hO : ∀ b, M b → b < w.heap.size)  {r : Box} (h : F.spec_BoxAll = some r) :
    Calls Tryd.prog 59 [].toArray w fun e w' => ∃ v, e = .returned v ∧ (∃ M' u, v = .agg #[u] ∧ OwnRow (RSlice RSpan) w.heap.size 58 w' M' r.Sides u ∧ Cx No w M w' M') ∧ BX No w w' := by
  obtain ⟨i58, hi58, hz58, hs58, hy58⟩ := info58
  have hC : Cx No w M w M := Cx.start hO (fun _ e => e.elim)
  refine walk (N := 18) Tryd.func59 rfl Tryd.ntmps59 rfl ?_
  refine cw_seq ?_
  refine cw_region ?_
  refine lw_op rfl rfl rfl (ow_alloc rfl (Tryd.zeroValue27 _) hC fun g1 w1 hg1 hg2 ho1 hb1 hl1 hC1 => ?_)
  have hm1 : (Add g1 M) g1 := .inl rfl
  refine lw_nil ?_
  refine ew_then ?_
  refine cw_seq ?_
  refine cw_region ?_
  refine lw_op rfl rfl rfl (ow_build (v := .agg #[(.slice none 0 0)]) rfl rfl (by kernel_rfl) ?_)
  have hw1 : VRep RBox w1 (Add g1 M) ({ Sides := ([] : List (List Span)) } : Box) (.agg #[(.slice none 0 0)]) := shut_Box (vslice_nil (R := (RSlice RSpan)) (w := w1) (M := (Add g1 M)))
  refine lw_op rfl rfl rfl (ow_alloc rfl (Tryd.zeroValue27 _) hC1 fun g2 w2 hg3 hg4 ho2 hb2 hl2 hC2 => ?_)
  have hn1 := Nat.ne_of_lt (Nat.lt_of_lt_of_le ho1.lt hg3)
  have ho3 := ho1.no hb2
  have hm2 : (Add g2 (Add g1 M)) g1 := .inr hm1
  have hm3 : (Add g2 (Add g1 M)) g2 := .inl rfl
  refine lw_op0 rfl rfl (ow_store (X := No) (us := [(.slice none 0 0)]) (cs' := #[(.slice none 0 0)]) rfl rfl rfl rfl ho2 (Tryd.sizeOf27 _) rfl rfl rfl rfl hm3 (.inl hg4) rfl hC2 fun w3 ho4 hb3 hl3 hC3 => ?_)
  have ho5 := ho3.go hb3 (fun e => hn1 e)
  refine lw_nil ?_
  refine ew_then ?_
  refine cw_seq ?_
  refine cw_seq ?_
  refine cw_region ?_
  refine lw_op rfl rfl rfl (ow_assign rfl rfl ?_)
  refine lw_nil ?_
  refine ew_then ?_
  have hr1 : OwnRow (RSlice RSpan) w.heap.size 58 w3 (Add g2 (Add g1 M)) ([] : List (List Span)) (.slice none 0 0) := ownrow_nil
  replace h := bind_some h
  obtain ⟨lr1, hlr1, h⟩ := h
  refine cw_for hlr1 (fun s a w' => ∃ (M' : Nat → Prop) (v1c : Value), Fits 18 [(0, (.pointer (some ⟨g1, 0, none⟩))), (1, (.pointer (some ⟨g2, 0, none⟩))), (2, (.int .i64 s.1))] a ∧ Le w3 (Add g2 (Add g1 M)) w' M' ∧ Cx No w M w' M' ∧ OwnRow (RSlice RSpan) w.heap.size 58 w' M' s.2 v1c ∧ Own w' g1 27 #[(.slice none 0 0)] ∧ M' g1 ∧ Own w' g2 27 #[v1c] ∧ M' g2) ?_ ?_ ?_
  · intro a ha
    exact ⟨(Add g2 (Add g1 M)), (.slice none 0 0), ha.sub ⟨rfl, rfl, rfl, trivial⟩, Le.refl _ _, hC3, hr1, ho5, hm2, ho4, hm3⟩
  · rintro ⟨k1, y1⟩ a w4 sr1 ⟨M1, v2, hF1, hl4, hC4, hw2, ho6, hm4, ho7, hm5⟩ hb4 hR1
    refine cw_at (E := [(0, (.pointer (some ⟨g1, 0, none⟩))), (1, (.pointer (some ⟨g2, 0, none⟩))), (2, (.int .i64 k1))]) hF1 ?_
    refine cw_seq ?_
    refine cw_seq ?_
    refine cw_region ?_
    refine lw_op rfl rfl rfl (ow_move rfl rfl ?_)
    refine lw_op rfl rfl rfl (ow_lss rfl rfl rfl fun bb1 hbb1 => ?_)
    refine lw_nil ?_
    refine ew_then ?_
    replace hb4 := cond_some hb4
    rcases hb4 with ⟨hc1, hb4⟩ | ⟨hc1, hb4⟩
    · obtain rfl := hbb1.trans hc1
      refine cw_true rfl ?_
      refine cw_skip ?_
      refine ew_then ?_
      refine cw_seq ?_
      refine cw_block ?_
      replace hb4 := bind_some hb4
      obtain ⟨x1, hx1, hb4⟩ := hb4
      refine cw_sub (E' := [(0, (.pointer (some ⟨g1, 0, none⟩))), (1, (.pointer (some ⟨g2, 0, none⟩))), (2, (.int .i64 k1))]) ⟨rfl, rfl, rfl, trivial⟩ ?_
      refine cw_drawQ 7 [PEq (.pointer (some ⟨g2, 0, none⟩)), PEq v2, PEq (.int .i64 k1), PEq (.int .i64 x1), PV RSpan M1 ({ Lo := 0, Hi := x1 } : Span), PV (RSlice RSpan) M1 [({ Lo := 0, Hi := x1 } : Span)], PV (RSlice (RSlice RSpan)) M1 [[({ Lo := 0, Hi := x1 } : Span)]]] (by kernel_rfl) rfl (by kernel_rfl) ⟨PEq.mono _, PEq.mono _, PEq.mono _, PEq.mono _, PV.mono _ _ _, PV.mono _ _ _, PV.mono _ _ _, trivial⟩ ⟨?_, ?_, ?_, ?_, ?_, ?_, ?_, trivial⟩ ?_
      · intro w8 D hS1 hd1
        have hl8 := Le.no M1 hS1
        have hC8 := hC4.no hS1
        have ho14 := ho6.no hS1
        have ho15 := ho7.no hS1
        have hr5 := hw2.no hS1
        refine dg_sub (E' := [(1, (.pointer (some ⟨g2, 0, none⟩)))]) ⟨rfl, trivial⟩ ?_
        refine dg_plain rfl (ow_fieldAddr rfl rfl Tryd.underlying27 rfl (Tryd.sizeOf25 _) ?_)
        exact ⟨BX.refl _ _, rfl⟩
      · intro w9 D hS2 hd2
        have hl9 := Le.no M1 hS2
        have hC9 := hC4.no hS2
        have ho16 := ho6.no hS2
        have ho17 := ho7.no hS2
        have hr6 := hw2.no hS2
        have hd2 : PEq (.pointer (some ⟨g2, 0, none⟩)) (D 0) w9 ∧ True := hd2
        obtain ⟨d1, -⟩ := hd2
        refine dg_sub (E' := [(8, (.pointer (some ⟨g2, 0, none⟩)))]) ⟨(congrArg some d1), trivial⟩ ?_
        refine dg_plain rfl (ow_loadOwn1 rfl rfl rfl ho17 (Tryd.isAgg25 _) rfl ?_)
        exact ⟨BX.refl _ _, rfl⟩
      · intro w10 D hS3 hd3
        have hl10 := Le.no M1 hS3
        have hC10 := hC4.no hS3
        have ho18 := ho6.no hS3
        have ho19 := ho7.no hS3
        have hr7 := hw2.no hS3
        refine dg_sub (E' := [(2, (.int .i64 k1))]) ⟨rfl, trivial⟩ ?_
        refine dg_plain rfl (ow_move rfl rfl ?_)
        exact ⟨BX.refl _ _, rfl⟩
      · intro w11 D hS4 hd4
        have hl11 := Le.no M1 hS4
        have hC11 := hC4.no hS4
        have ho20 := ho6.no hS4
        have ho21 := ho7.no hS4
        have hr8 := hw2.no hS4
        have hd4 : PEq (.int .i64 k1) (D 2) w11 ∧ True := hd4
        obtain ⟨d2, -⟩ := hd4
        refine dg_sub (E' := [(10, (.int .i64 k1))]) ⟨(congrArg some d2), trivial⟩ ?_
        refine dg_plain rfl (ow_call rfl rfl Tryd.call81 (w_spec_FieldTop (hG.mono ((((hl1.trans hl2).trans hl3).trans hl4).trans hl11)) hC11.old hx1) fun v4 w12 hv4 => ?_)
        obtain ⟨hv4, hb8⟩ := hv4
        have hl12 := Le.no M1 hb8
        have hC12 := hC11.no hb8
        have ho22 := ho20.no hb8
        have ho23 := ho21.no hb8
        have hr9 := hr8.no hb8
        obtain rfl := vint_eq hv4
        exact ⟨hb8, rfl⟩
      · intro w13 D hS5 hd5
        have hl13 := Le.no M1 hS5
        have hC13 := hC4.no hS5
        have ho24 := ho6.no hS5
        have ho25 := ho7.no hS5
        have hr10 := hw2.no hS5
        have hd5 : PEq (.int .i64 x1) (D 3) w13 ∧ True := hd5
        obtain ⟨d3, -⟩ := hd5
        refine dg_sub (E' := [(11, (.int .i64 x1))]) ⟨(congrArg some d3), trivial⟩ ?_
        refine dg_plain rfl (ow_build (v := .agg #[(.int .i64 0), (.int .i64 x1)]) rfl rfl (by kernel_rfl) ?_)
        have hw6 : VRep RSpan w13 M1 ({ Lo := 0, Hi := x1 } : Span) (.agg #[(.int .i64 0), (.int .i64 x1)]) := shut_Span
        exact ⟨BX.refl _ _, hw6⟩
      · intro w14 D hS6 hd6
        have hl14 := Le.no M1 hS6
        have hC14 := hC4.no hS6
        have ho26 := ho6.no hS6
        have ho27 := ho7.no hS6
        have hr11 := hw2.no hS6
        have hd6 : PV RSpan M1 ({ Lo := 0, Hi := x1 } : Span) (D 4) w14 ∧ True := hd6
        obtain ⟨d4, -⟩ := hd6
        obtain ⟨v5, hq1⟩ : ∃ v, (D 4) = v := ⟨_, rfl⟩
        rw [hq1] at d4
        refine dg_sub (E' := [(12, v5)]) ⟨(congrArg some hq1), trivial⟩ ?_
        obtain rfl := open_Span d4
        refine dg_plain rfl (ow_buildSlice (R := RSpan) (xs := [({ Lo := 0, Hi := x1 } : Span)]) (cs := #[(.int .i64 ({ Lo := 0, Hi := x1 } : Span).Lo), (.int .i64 ({ Lo := 0, Hi := x1 } : Span).Hi)]) (e := 76) rfl rfl (by kernel_rfl) rfl rfl ⟨_, _, rfl, d4.cells, rfl⟩ hC14 fun p3 w15 hw7 hb9 hl15 hC15 => ?_)
        have ho28 := ho26.no hb9
        have ho29 := ho27.no hb9
        have hr12 := hr11.no hb9
        exact ⟨hb9, hw7⟩
      · intro w16 D hS7 hd7
        have hl16 := Le.no M1 hS7
        have hC16 := hC4.no hS7
        have ho30 := ho6.no hS7
        have ho31 := ho7.no hS7
        have hr13 := hw2.no hS7
        have hd7 : PV (RSlice RSpan) M1 [({ Lo := 0, Hi := x1 } : Span)] (D 5) w16 ∧ True := hd7
        obtain ⟨d5, -⟩ := hd7
        obtain ⟨v6, hq2⟩ : ∃ v, (D 5) = v := ⟨_, rfl⟩
        rw [hq2] at d5
        refine dg_sub (E' := [(13, v6)]) ⟨(congrArg some hq2), trivial⟩ ?_
        obtain ⟨A1, c1, rfl, -⟩ := vslice_shape d5
        refine dg_plain rfl (ow_buildSlice (R := (RSlice RSpan)) (xs := [[({ Lo := 0, Hi := x1 } : Span)]]) (cs := #[(.slice A1 [({ Lo := 0, Hi := x1 } : Span)].length c1)]) (e := 58) rfl rfl (by kernel_rfl) rfl rfl ⟨_, _, rfl, d5.cells, rfl⟩ hC16 fun p4 w17 hw8 hb10 hl17 hC17 => ?_)
        have ho32 := ho30.no hb10
        have ho33 := ho31.no hb10
        have hr14 := hr13.no hb10
        exact ⟨hb10, hw8⟩
      · intro w18 D hS8 hd8
        have hl18 := Le.no M1 hS8
        have hC18 := hC4.no hS8
        have ho34 := ho6.no hS8
        have ho35 := ho7.no hS8
        have hr15 := hw2.no hS8
        have hd8 : PEq (.pointer (some ⟨g2, 0, none⟩)) (D 0) w18 ∧ PEq v2 (D 1) w18 ∧ PEq (.int .i64 k1) (D 2) w18 ∧ PEq (.int .i64 x1) (D 3) w18 ∧ PV RSpan M1 ({ Lo := 0, Hi := x1 } : Span) (D 4) w18 ∧ PV (RSlice RSpan) M1 [({ Lo := 0, Hi := x1 } : Span)] (D 5) w18 ∧ PV (RSlice (RSlice RSpan)) M1 [[({ Lo := 0, Hi := x1 } : Span)]] (D 6) w18 ∧ True := hd8
        obtain ⟨-, d7, -, -, -, -, d12, -⟩ := hd8
        obtain ⟨v7, hq3⟩ : ∃ v, (D 6) = v := ⟨_, rfl⟩
        rw [hq3] at d12
        refine lw_sub (E' := [(9, v2), (14, v7), (0, (.pointer (some ⟨g1, 0, none⟩))), (1, (.pointer (some ⟨g2, 0, none⟩))), (2, (.int .i64 k1))]) ⟨(congrArg some d7), (congrArg some hq3), rfl, rfl, rfl, trivial⟩ ?_
        replace hb4 := bind_some hb4
        obtain ⟨z1, hz1, hb4⟩ := hb4
        refine lw_op rfl rfl rfl (ow_append (R := (RSlice RSpan)) rfl rfl rfl rfl Tryd.underlying25 hi58 hz58 hs58 hy58 rfl rfl rfl rfl hr15 d12 hz1 hC18 fun v8 w19 M2 hr16 hb11 hl19 hC19 hM1 hat1 => ?_)
        have ho36 := ho34.go hb11 (fun e => (orow_ne hr15 ho34 (by decide)) e)
        have hm6 := hM1 _ hm4
        have ho37 := ho35.go hb11 (fun e => (orow_ne hr15 ho35 (by decide)) e)
        have hm7 := hM1 _ hm5
        refine lw_op rfl rfl rfl (ow_fieldAddr rfl rfl Tryd.underlying27 rfl (Tryd.sizeOf25 _) ?_)
        obtain ⟨A2, c2, rfl⟩ := hr16.len
        refine lw_op0 rfl rfl (ow_store (X := No) (us := [(.slice A2 z1.length c2)]) (cs' := #[(.slice A2 z1.length c2)]) rfl rfl rfl rfl ho37 (Tryd.sizeOf25 _) rfl rfl rfl rfl hm7 (.inl hg4) rfl hC19 fun w20 ho38 hb12 hl20 hC20 => ?_)
        have ho39 := ho36.go hb12 (fun e => hn1 e)
        have hr17 := hr16.go hb12 (fun k hk e => (orow_ne hr16 ho37 (by decide)) (hk.trans (congrArg some e))) hl20 (fun _ h => h)
        refine lw_nil ?_
        refine ew_blockN ?_
        refine ew_then ?_
        refine cw_region ?_
        refine lw_op rfl rfl rfl (ow_move rfl rfl ?_)
        refine lw_op rfl rfl rfl (ow_add rfl rfl rfl ?_)
        refine lw_op rfl rfl rfl (ow_assign rfl rfl ?_)
        refine lw_nil ?_
        refine ew_nxt ((W (k1 + 1)), z1) hb4 fun a ha => ⟨M2, (.slice A2 z1.length c2), ?_, (((hl4.trans hl18).trans hl19).trans hl20), hC20, hr17, ho39, hm6, ho38, hm7⟩
        exact ha.sub ⟨rfl, rfl, rfl, trivial⟩
    · obtain rfl := hbb1.trans hc1
      refine cw_false rfl ?_
      refine cw_exit ?_
      refine ew_thenX ?_
      refine ew_thenX ?_
      refine ew_blockX ?_
      refine ew_brk (k1, y1) hb4 fun a ha => ⟨M1, v2, ?_, hl4, hC4, hw2, ho6, hm4, ho7, hm5⟩
      exact ha.sub ⟨rfl, rfl, rfl, trivial⟩
  · rintro ⟨k2, y2⟩ a w21 hlr2 ⟨M3, v10, hF2, hl21, hC21, hw9, ho40, hm8, ho41, hm9⟩
    subst hlr2
    refine ew_at (E := [(0, (.pointer (some ⟨g1, 0, none⟩))), (1, (.pointer (some ⟨g2, 0, none⟩))), (2, (.int .i64 k2))]) hF2 ?_
    refine ew_then ?_
    refine cw_seq ?_
    refine cw_region ?_
    obtain ⟨A3, c3, rfl⟩ := hw9.len
    refine lw_op rfl rfl rfl (ow_loadOwnA rfl rfl rfl ho41 (Tryd.isAgg27 _) (Tryd.sizeOf27 _) rfl ?_)
    refine lw_op0 rfl rfl (ow_store (X := No) (us := [(.slice A3 y2.length c3)]) (cs' := #[(.slice A3 y2.length c3)]) rfl rfl rfl rfl ho40 (Tryd.sizeOf27 _) rfl rfl rfl rfl hm8 (.inl hg2) rfl hC21 fun w22 ho42 hb13 hl22 hC22 => ?_)
    have ho43 := ho41.go hb13 (fun e => hn1 e.symm)
    have hr18 := hw9.go hb13 (fun k hk e => (orow_ne hw9 ho40 (by decide)) (hk.trans (congrArg some e))) hl22 (fun _ h => h)
    refine lw_nil ?_
    refine ew_then ?_
    refine cw_ret ?_
    obtain rfl := Option.some.inj h
    exact ew_ret (res1 rfl (.cell rfl (own_loadVarA ho42 (Tryd.isAgg27 _) (Tryd.sizeOf27 _) rfl))) ⟨_, rfl, ⟨M3, _, rfl, hr18, hC22⟩, hC22.bx⟩

theorem w_spec_l2Meet {w : World} {M : Nat → Prop} (_hG : ARep (RArr 4 RShape) w M shapes ⟨0, 0, none⟩) (hO : ∀ b, M b → b < w.heap.size) {v0p : Value} {a_a : List Span} (h0 : VRep (RSlice RSpan) w M a_a v0p) {v1p : Value} {a_b : List Span} (h1 : VRep (RSlice RSpan) w M a_b v1p) {r : (List Span)} (h : F.spec_l2Meet a_a a_b = some r) :
    Calls Tryd.prog 60 [v0p, v1p].toArray w fun e w' => ∃ v, e = .returned v ∧ VRep (RSlice RSpan) w' M r v ∧ BX No w w' := by
  obtain ⟨i76, hi76, hz76, hs76, hy76⟩ := info76
  have hC : Cx No w M w M := Cx.start hO (fun _ e => e.elim)
  clear _hG
  refine walk (N := 55) Tryd.func60 rfl Tryd.ntmps60 rfl ?_
  refine cw_seq ?_
  refine cw_region ?_
  refine lw_op rfl rfl rfl (ow_assign rfl rfl ?_)
  refine lw_nil ?_
  refine ew_then ?_
  refine cw_seq ?_
  refine cw_region ?_
  refine lw_op rfl rfl rfl (ow_buildSlice0 (R := RSpan) (e := 76) rfl (by kernel_rfl) hC fun p1 w1 M1 hr1 hb1 hl1 hC1 hM1 hat1 => ?_)
  refine lw_op rfl rfl rfl (ow_assign rfl rfl ?_)
  refine lw_nil ?_
  refine ew_then ?_
  refine cw_seq ?_
  refine cw_seq ?_
  refine cw_region ?_
  refine lw_op rfl rfl rfl (ow_assign rfl rfl ?_)
  refine lw_nil ?_
  refine ew_then ?_
  replace h := bind_some h
  obtain ⟨lr1, hlr1, h⟩ := h
  refine cw_for hlr1 (fun s a w' => ∃ (M' : Nat → Prop) (v0c : Value), Fits 55 [(0, v0p), (1, v1p), (5, v0c), (6, (.int .i64 s.2))] a ∧ Le w1 M1 w' M' ∧ Cx No w M w' M' ∧ OwnRow RSpan w.heap.size 76 w' M' s.1 v0c) ?_ ?_ ?_
  · intro a ha
    exact ⟨M1, (.slice (some p1) 0 0), ha.sub ⟨rfl, rfl, rfl, rfl, trivial⟩, Le.refl _ _, hC1, hr1⟩
  · rintro ⟨y1, k1⟩ a w2 sr1 ⟨M2, v1, hF1, hl2, hC2, hw1⟩ hb2 hR1
    refine cw_at (E := [(0, v0p), (1, v1p), (5, v1), (6, (.int .i64 k1))]) hF1 ?_
    refine cw_seq ?_
    refine cw_seq ?_
    refine cw_region ?_
    refine lw_op rfl rfl rfl (ow_move rfl rfl ?_)
    refine lw_op rfl rfl rfl (ow_move rfl rfl ?_)
    refine lw_op rfl rfl rfl (ow_len rfl rfl (VRep.mono (hl1.trans hl2) h0) Tryd.underlying58 rfl ?_)
    refine lw_op rfl rfl rfl (ow_lss rfl rfl rfl fun bb1 hbb1 => ?_)
    refine lw_nil ?_
    refine ew_then ?_
    replace hb2 := cond_some hb2
    rcases hb2 with ⟨hc1, hb2⟩ | ⟨hc1, hb2⟩
    · obtain rfl := hbb1.trans hc1
      refine cw_true rfl ?_
      refine cw_skip ?_
      refine ew_then ?_
      refine cw_seq ?_
      refine cw_block ?_
      refine cw_seq ?_
      refine cw_region ?_
      refine lw_op rfl rfl rfl (ow_assign rfl rfl ?_)
      refine lw_nil ?_
      refine ew_then ?_
      replace hb2 := bind_some hb2
      obtain ⟨lr2, hlr2, hb2⟩ := hb2
      refine cw_for hlr2 (fun s a w' => ∃ (M' : Nat → Prop) (v0c : Value), Fits 55 [(0, v0p), (1, v1p), (5, v0c), (6, (.int .i64 k1)), (7, (.int .i64 s.2))] a ∧ Le w2 M2 w' M' ∧ Cx No w M w' M' ∧ OwnRow RSpan w.heap.size 76 w' M' s.1 v0c) ?_ ?_ ?_
      · intro a ha
        exact ⟨M2, v1, ha.sub ⟨rfl, rfl, rfl, rfl, rfl, trivial⟩, Le.refl _ _, hC2, hw1⟩
      · rintro ⟨y2, k2⟩ a w3 sr2 ⟨M3, v3, hF2, hl3, hC3, hw2⟩ hb3 hR2
        refine cw_at (E := [(0, v0p), (1, v1p), (5, v3), (6, (.int .i64 k1)), (7, (.int .i64 k2))]) hF2 ?_
        refine cw_seq ?_
        refine cw_seq ?_
        refine cw_region ?_
        refine lw_op rfl rfl rfl (ow_move rfl rfl ?_)
        refine lw_op rfl rfl rfl (ow_move rfl rfl ?_)
        refine lw_op rfl rfl rfl (ow_len rfl rfl (VRep.mono ((hl1.trans hl2).trans hl3) h1) Tryd.underlying58 rfl ?_)
        refine lw_op rfl rfl rfl (ow_lss rfl rfl rfl fun bb2 hbb2 => ?_)
        refine lw_nil ?_
        refine ew_then ?_
        replace hb3 := cond_some hb3
        rcases hb3 with ⟨hc2, hb3⟩ | ⟨hc2, hb3⟩
        · obtain rfl := hbb2.trans hc2
          refine cw_true rfl ?_
          refine cw_skip ?_
          refine ew_then ?_
          refine cw_seq ?_
          refine cw_block ?_
          refine cw_seq ?_
          replace hb3 := bind_some hb3
          obtain ⟨x1, hx1, hb3⟩ := hb3
          replace hb3 := bind_some hb3
          obtain ⟨x2, hx2, hb3⟩ := hb3
          refine cw_sub (E' := [(0, v0p), (1, v1p), (5, v3), (6, (.int .i64 k1)), (7, (.int .i64 k2))]) ⟨rfl, rfl, rfl, rfl, rfl, trivial⟩ ?_
          refine cw_drawQ 10 [PV (RSlice RSpan) M3 a_a, PEq (.int .i64 k1), PA RSpan M3 x1, PA RInt M3 x1.Lo, PEq (.int .i64 x1.Lo), PV (RSlice RSpan) M3 a_b, PEq (.int .i64 k2), PA RSpan M3 x2, PA RInt M3 x2.Lo, PEq (.int .i64 x2.Lo)] (by kernel_rfl) rfl (by kernel_rfl) ⟨PV.mono _ _ _, PEq.mono _, PA.mono _ _ _, PA.mono _ _ _, PEq.mono _, PV.mono _ _ _, PEq.mono _, PA.mono _ _ _, PA.mono _ _ _, PEq.mono _, trivial⟩ ⟨?_, ?_, ?_, ?_, ?_, ?_, ?_, ?_, ?_, ?_, trivial⟩ ?_
          · intro w4 D hS1 hd1
            have hl4 := Le.no M3 hS1
            have hC4 := hC3.no hS1
            have hr2 := hw2.no hS1
            refine dg_sub (E' := [(0, v0p)]) ⟨rfl, trivial⟩ ?_
            refine dg_plain rfl (ow_move rfl rfl ?_)
            exact ⟨BX.refl _ _, (VRep.mono (((hl1.trans hl2).trans hl3).trans hl4) h0)⟩
          · intro w5 D hS2 hd2
            have hl5 := Le.no M3 hS2
            have hC5 := hC3.no hS2
            have hr3 := hw2.no hS2
            refine dg_sub (E' := [(6, (.int .i64 k1))]) ⟨rfl, trivial⟩ ?_
            refine dg_plain rfl (ow_move rfl rfl ?_)
            exact ⟨BX.refl _ _, rfl⟩
          · intro w6 D hS3 hd3
            have hl6 := Le.no M3 hS3
            have hC6 := hC3.no hS3
            have hr4 := hw2.no hS3
            have hd3 : PV (RSlice RSpan) M3 a_a (D 0) w6 ∧ PEq (.int .i64 k1) (D 1) w6 ∧ True := hd3
            obtain ⟨d1, d2, -⟩ := hd3
            obtain ⟨v7, hq1⟩ : ∃ v, (D 0) = v := ⟨_, rfl⟩
            rw [hq1] at d1
            refine dg_sub (E' := [(23, v7), (24, (.int .i64 k1))]) ⟨(congrArg some hq1), (congrArg some d2), trivial⟩ ?_
            refine dg_plain rfl (ow_indexSlice (R := RSpan) rfl rfl rfl d1 Tryd.underlying58 (Tryd.sizeOf76 _) hx1 fun p4 hp4 => ?_)
            exact ⟨BX.refl _ _, ⟨_, rfl, hp4⟩⟩
          · intro w7 D hS4 hd4
            have hl7 := Le.no M3 hS4
            have hC7 := hC3.no hS4
            have hr5 := hw2.no hS4
            have hd4 : PA RSpan M3 x1 (D 2) w7 ∧ True := hd4
            obtain ⟨d3, -⟩ := hd4
            obtain ⟨p5, e1, ha1⟩ := d3
            refine dg_sub (E' := [(25, (.pointer (some p5)))]) ⟨(congrArg some e1), trivial⟩ ?_
            refine dg_plain rfl (ow_fieldAddr rfl rfl Tryd.underlying76 rfl (Tryd.sizeOf3 _) ?_)
            exact ⟨BX.refl _ _, ⟨_, rfl, (ha1.fld fld_Span_Lo)⟩⟩
          · intro w8 D hS5 hd5
            have hl8 := Le.no M3 hS5
            have hC8 := hC3.no hS5
            have hr6 := hw2.no hS5
            have hd5 : PA RInt M3 x1.Lo (D 3) w8 ∧ True := hd5
            obtain ⟨d4, -⟩ := hd5
            obtain ⟨p6, e2, ha2⟩ := d4
            refine dg_sub (E' := [(26, (.pointer (some p6)))]) ⟨(congrArg some e2), trivial⟩ ?_
            refine dg_plain rfl (ow_load (R := RInt) rfl rfl ha2 (Tryd.sizeOf3 _) (Tryd.isAgg3 _) fun v8 hv8 => ?_)
            obtain rfl := vint_eq hv8
            exact ⟨BX.refl _ _, rfl⟩
          · intro w9 D hS6 hd6
            have hl9 := Le.no M3 hS6
            have hC9 := hC3.no hS6
            have hr7 := hw2.no hS6
            refine dg_sub (E' := [(1, v1p)]) ⟨rfl, trivial⟩ ?_
            refine dg_plain rfl (ow_move rfl rfl ?_)
            exact ⟨BX.refl _ _, (VRep.mono (((hl1.trans hl2).trans hl3).trans hl9) h1)⟩
          · intro w10 D hS7 hd7
            have hl10 := Le.no M3 hS7
            have hC10 := hC3.no hS7
            have hr8 := hw2.no hS7
            refine dg_sub (E' := [(7, (.int .i64 k2))]) ⟨rfl, trivial⟩ ?_
            refine dg_plain rfl (ow_move rfl rfl ?_)
            exact ⟨BX.refl _ _, rfl⟩
          · intro w11 D hS8 hd8
            have hl11 := Le.no M3 hS8
            have hC11 := hC3.no hS8
            have hr9 := hw2.no hS8
            have hd8 : PV (RSlice RSpan) M3 a_b (D 5) w11 ∧ PEq (.int .i64 k2) (D 6) w11 ∧ True := hd8
            obtain ⟨d5, d6, -⟩ := hd8
            obtain ⟨v9, hq2⟩ : ∃ v, (D 5) = v := ⟨_, rfl⟩
            rw [hq2] at d5
            refine dg_sub (E' := [(28, v9), (29, (.int .i64 k2))]) ⟨(congrArg some hq2), (congrArg some d6), trivial⟩ ?_
            refine dg_plain rfl (ow_indexSlice (R := RSpan) rfl rfl rfl d5 Tryd.underlying58 (Tryd.sizeOf76 _) hx2 fun p7 hp7 => ?_)
            exact ⟨BX.refl _ _, ⟨_, rfl, hp7⟩⟩
          · intro w12 D hS9 hd9
            have hl12 := Le.no M3 hS9
            have hC12 := hC3.no hS9
            have hr10 := hw2.no hS9
            have hd9 : PA RSpan M3 x2 (D 7) w12 ∧ True := hd9
            obtain ⟨d7, -⟩ := hd9
            obtain ⟨p8, e3, ha3⟩ := d7
            refine dg_sub (E' := [(30, (.pointer (some p8)))]) ⟨(congrArg some e3), trivial⟩ ?_
            refine dg_plain rfl (ow_fieldAddr rfl rfl Tryd.underlying76 rfl (Tryd.sizeOf3 _) ?_)
            exact ⟨BX.refl _ _, ⟨_, rfl, (ha3.fld fld_Span_Lo)⟩⟩
          · intro w13 D hS10 hd10
            have hl13 := Le.no M3 hS10
            have hC13 := hC3.no hS10
            have hr11 := hw2.no hS10
            have hd10 : PA RInt M3 x2.Lo (D 8) w13 ∧ True := hd10
            obtain ⟨d8, -⟩ := hd10
            obtain ⟨p9, e4, ha4⟩ := d8
            refine dg_sub (E' := [(31, (.pointer (some p9)))]) ⟨(congrArg some e4), trivial⟩ ?_
            refine dg_plain rfl (ow_load (R := RInt) rfl rfl ha4 (Tryd.sizeOf3 _) (Tryd.isAgg3 _) fun v10 hv10 => ?_)
            obtain rfl := vint_eq hv10
            exact ⟨BX.refl _ _, rfl⟩
          · intro w14 D hS11 hd11
            have hl14 := Le.no M3 hS11
            have hC14 := hC3.no hS11
            have hr12 := hw2.no hS11
            have hd11 : PV (RSlice RSpan) M3 a_a (D 0) w14 ∧ PEq (.int .i64 k1) (D 1) w14 ∧ PA RSpan M3 x1 (D 2) w14 ∧ PA RInt M3 x1.Lo (D 3) w14 ∧ PEq (.int .i64 x1.Lo) (D 4) w14 ∧ PV (RSlice RSpan) M3 a_b (D 5) w14 ∧ PEq (.int .i64 k2) (D 6) w14 ∧ PA RSpan M3 x2 (D 7) w14 ∧ PA RInt M3 x2.Lo (D 8) w14 ∧ PEq (.int .i64 x2.Lo) (D 9) w14 ∧ True := hd11
            obtain ⟨-, -, -, -, d13, -, -, -, -, d18, -⟩ := hd11
            refine lw_sub (E' := [(27, (.int .i64 x1.Lo)), (32, (.int .i64 x2.Lo)), (0, v0p), (1, v1p), (5, v3), (6, (.int .i64 k1)), (7, (.int .i64 k2))]) ⟨(congrArg some d13), (congrArg some d18), rfl, rfl, rfl, rfl, rfl, trivial⟩ ?_
            refine lw_op rfl rfl rfl (ow_max rfl rfl rfl ?_)
            refine lw_op rfl rfl rfl (ow_assign rfl rfl ?_)
            refine lw_nil ?_
            refine ew_then ?_
            refine cw_seq ?_
            refine cw_sub (E' := [(0, v0p), (1, v1p), (5, v3), (6, (.int .i64 k1)), (7, (.int .i64 k2)), (8, (.int .i64 (imax x1.Lo x2.Lo)))]) ⟨rfl, rfl, rfl, rfl, rfl, rfl, trivial⟩ ?_
            refine cw_drawQ 10 [PV (RSlice RSpan) M3 a_a, PEq (.int .i64 k1), PA RSpan M3 x1, PA RInt M3 x1.Hi, PEq (.int .i64 x1.Hi), PV (RSlice RSpan) M3 a_b, PEq (.int .i64 k2), PA RSpan M3 x2, PA RInt M3 x2.Hi, PEq (.int .i64 x2.Hi)] (by kernel_rfl) rfl (by kernel_rfl) ⟨PV.mono _ _ _, PEq.mono _, PA.mono _ _ _, PA.mono _ _ _, PEq.mono _, PV.mono _ _ _, PEq.mono _, PA.mono _ _ _, PA.mono _ _ _, PEq.mono _, trivial⟩ ⟨?_, ?_, ?_, ?_, ?_, ?_, ?_, ?_, ?_, ?_, trivial⟩ ?_
            · intro w15 D hS12 hd12
              have hl15 := Le.no M3 hS12
              have hC15 := hC14.no hS12
              have hr13 := hr12.no hS12
              refine dg_sub (E' := [(0, v0p)]) ⟨rfl, trivial⟩ ?_
              refine dg_plain rfl (ow_move rfl rfl ?_)
              exact ⟨BX.refl _ _, (VRep.mono ((((hl1.trans hl2).trans hl3).trans hl14).trans hl15) h0)⟩
            · intro w16 D hS13 hd13
              have hl16 := Le.no M3 hS13
              have hC16 := hC14.no hS13
              have hr14 := hr12.no hS13
              refine dg_sub (E' := [(6, (.int .i64 k1))]) ⟨rfl, trivial⟩ ?_
              refine dg_plain rfl (ow_move rfl rfl ?_)
              exact ⟨BX.refl _ _, rfl⟩
            · intro w17 D hS14 hd14
              have hl17 := Le.no M3 hS14
              have hC17 := hC14.no hS14
              have hr15 := hr12.no hS14
              have hd14 : PV (RSlice RSpan) M3 a_a (D 0) w17 ∧ PEq (.int .i64 k1) (D 1) w17 ∧ True := hd14
              obtain ⟨d19, d20, -⟩ := hd14
              obtain ⟨v13, hq3⟩ : ∃ v, (D 0) = v := ⟨_, rfl⟩
              rw [hq3] at d19
              refine dg_sub (E' := [(34, v13), (35, (.int .i64 k1))]) ⟨(congrArg some hq3), (congrArg some d20), trivial⟩ ?_
              refine dg_plain rfl (ow_indexSlice (R := RSpan) rfl rfl rfl d19 Tryd.underlying58 (Tryd.sizeOf76 _) hx1 fun p12 hp12 => ?_)
              exact ⟨BX.refl _ _, ⟨_, rfl, hp12⟩⟩
            · intro w18 D hS15 hd15
              have hl18 := Le.no M3 hS15
              have hC18 := hC14.no hS15
              have hr16 := hr12.no hS15
              have hd15 : PA RSpan M3 x1 (D 2) w18 ∧ True := hd15
              obtain ⟨d21, -⟩ := hd15
              obtain ⟨p13, e5, ha5⟩ := d21
              refine dg_sub (E' := [(36, (.pointer (some p13)))]) ⟨(congrArg some e5), trivial⟩ ?_
              refine dg_plain rfl (ow_fieldAddr rfl rfl Tryd.underlying76 rfl (Tryd.sizeOf3 _) ?_)
              exact ⟨BX.refl _ _, ⟨_, rfl, (ha5.fld fld_Span_Hi)⟩⟩
            · intro w19 D hS16 hd16
              have hl19 := Le.no M3 hS16
              have hC19 := hC14.no hS16
              have hr17 := hr12.no hS16
              have hd16 : PA RInt M3 x1.Hi (D 3) w19 ∧ True := hd16
              obtain ⟨d22, -⟩ := hd16
              obtain ⟨p14, e6, ha6⟩ := d22
              refine dg_sub (E' := [(37, (.pointer (some p14)))]) ⟨(congrArg some e6), trivial⟩ ?_
              refine dg_plain rfl (ow_load (R := RInt) rfl rfl ha6 (Tryd.sizeOf3 _) (Tryd.isAgg3 _) fun v14 hv14 => ?_)
              obtain rfl := vint_eq hv14
              exact ⟨BX.refl _ _, rfl⟩
            · intro w20 D hS17 hd17
              have hl20 := Le.no M3 hS17
              have hC20 := hC14.no hS17
              have hr18 := hr12.no hS17
              refine dg_sub (E' := [(1, v1p)]) ⟨rfl, trivial⟩ ?_
              refine dg_plain rfl (ow_move rfl rfl ?_)
              exact ⟨BX.refl _ _, (VRep.mono ((((hl1.trans hl2).trans hl3).trans hl14).trans hl20) h1)⟩
            · intro w21 D hS18 hd18
              have hl21 := Le.no M3 hS18
              have hC21 := hC14.no hS18
              have hr19 := hr12.no hS18
              refine dg_sub (E' := [(7, (.int .i64 k2))]) ⟨rfl, trivial⟩ ?_
              refine dg_plain rfl (ow_move rfl rfl ?_)
              exact ⟨BX.refl _ _, rfl⟩
            · intro w22 D hS19 hd19
              have hl22 := Le.no M3 hS19
              have hC22 := hC14.no hS19
              have hr20 := hr12.no hS19
              have hd19 : PV (RSlice RSpan) M3 a_b (D 5) w22 ∧ PEq (.int .i64 k2) (D 6) w22 ∧ True := hd19
              obtain ⟨d23, d24, -⟩ := hd19
              obtain ⟨v15, hq4⟩ : ∃ v, (D 5) = v := ⟨_, rfl⟩
              rw [hq4] at d23
              refine dg_sub (E' := [(39, v15), (40, (.int .i64 k2))]) ⟨(congrArg some hq4), (congrArg some d24), trivial⟩ ?_
              refine dg_plain rfl (ow_indexSlice (R := RSpan) rfl rfl rfl d23 Tryd.underlying58 (Tryd.sizeOf76 _) hx2 fun p15 hp15 => ?_)
              exact ⟨BX.refl _ _, ⟨_, rfl, hp15⟩⟩
            · intro w23 D hS20 hd20
              have hl23 := Le.no M3 hS20
              have hC23 := hC14.no hS20
              have hr21 := hr12.no hS20
              have hd20 : PA RSpan M3 x2 (D 7) w23 ∧ True := hd20
              obtain ⟨d25, -⟩ := hd20
              obtain ⟨p16, e7, ha7⟩ := d25
              refine dg_sub (E' := [(41, (.pointer (some p16)))]) ⟨(congrArg some e7), trivial⟩ ?_
              refine dg_plain rfl (ow_fieldAddr rfl rfl Tryd.underlying76 rfl (Tryd.sizeOf3 _) ?_)
              exact ⟨BX.refl _ _, ⟨_, rfl, (ha7.fld fld_Span_Hi)⟩⟩
            · intro w24 D hS21 hd21
              have hl24 := Le.no M3 hS21
              have hC24 := hC14.no hS21
              have hr22 := hr12.no hS21
              have hd21 : PA RInt M3 x2.Hi (D 8) w24 ∧ True := hd21
              obtain ⟨d26, -⟩ := hd21
              obtain ⟨p17, e8, ha8⟩ := d26
              refine dg_sub (E' := [(42, (.pointer (some p17)))]) ⟨(congrArg some e8), trivial⟩ ?_
              refine dg_plain rfl (ow_load (R := RInt) rfl rfl ha8 (Tryd.sizeOf3 _) (Tryd.isAgg3 _) fun v16 hv16 => ?_)
              obtain rfl := vint_eq hv16
              exact ⟨BX.refl _ _, rfl⟩
            · intro w25 D hS22 hd22
              have hl25 := Le.no M3 hS22
              have hC25 := hC14.no hS22
              have hr23 := hr12.no hS22
              have hd22 : PV (RSlice RSpan) M3 a_a (D 0) w25 ∧ PEq (.int .i64 k1) (D 1) w25 ∧ PA RSpan M3 x1 (D 2) w25 ∧ PA RInt M3 x1.Hi (D 3) w25 ∧ PEq (.int .i64 x1.Hi) (D 4) w25 ∧ PV (RSlice RSpan) M3 a_b (D 5) w25 ∧ PEq (.int .i64 k2) (D 6) w25 ∧ PA RSpan M3 x2 (D 7) w25 ∧ PA RInt M3 x2.Hi (D 8) w25 ∧ PEq (.int .i64 x2.Hi) (D 9) w25 ∧ True := hd22
              obtain ⟨-, -, -, -, d31, -, -, -, -, d36, -⟩ := hd22
              refine lw_sub (E' := [(38, (.int .i64 x1.Hi)), (43, (.int .i64 x2.Hi)), (0, v0p), (1, v1p), (5, v3), (6, (.int .i64 k1)), (7, (.int .i64 k2)), (8, (.int .i64 (imax x1.Lo x2.Lo)))]) ⟨(congrArg some d31), (congrArg some d36), rfl, rfl, rfl, rfl, rfl, rfl, trivial⟩ ?_
              refine lw_op rfl rfl rfl (ow_min rfl rfl rfl ?_)
              refine lw_op rfl rfl rfl (ow_assign rfl rfl ?_)
              refine lw_nil ?_
              refine ew_then ?_
              refine cw_seq ?_
              refine cw_region ?_
              refine lw_op rfl rfl rfl (ow_move rfl rfl ?_)
              refine lw_op rfl rfl rfl (ow_move rfl rfl ?_)
              refine lw_op rfl rfl rfl (ow_leq rfl rfl rfl fun bb3 hbb3 => ?_)
              refine lw_nil ?_
              refine ew_then ?_
              replace hb3 := cond_some hb3
              rcases hb3 with ⟨hc3, hb3⟩ | ⟨hc3, hb3⟩
              · obtain rfl := hbb3.trans hc3
                refine cw_true rfl ?_
                refine cw_region ?_
                refine lw_op rfl rfl rfl (ow_move rfl rfl ?_)
                refine lw_op rfl rfl rfl (ow_move rfl rfl ?_)
                refine lw_op rfl rfl rfl (ow_move rfl rfl ?_)
                refine lw_op rfl rfl rfl (ow_build (v := .agg #[(.int .i64 (imax x1.Lo x2.Lo)), (.int .i64 (imin x1.Hi x2.Hi))]) rfl rfl (by kernel_rfl) ?_)
                have hw3 : VRep RSpan w25 M3 ({ Lo := (imax x1.Lo x2.Lo), Hi := (imin x1.Hi x2.Hi) } : Span) (.agg #[(.int .i64 (imax x1.Lo x2.Lo)), (.int .i64 (imin x1.Hi x2.Hi))]) := shut_Span
                refine lw_op rfl rfl rfl (ow_buildSlice (R := RSpan) (xs := [({ Lo := (imax x1.Lo x2.Lo), Hi := (imin x1.Hi x2.Hi) } : Span)]) (cs := #[(.int .i64 (imax x1.Lo x2.Lo)), (.int .i64 (imin x1.Hi x2.Hi))]) (e := 76) rfl rfl (by kernel_rfl) rfl rfl ⟨_, _, rfl, hw3.cells, rfl⟩ hC25 fun p18 w26 hw4 hb4 hl26 hC26 => ?_)
                have hr24 := hr23.no hb4
                replace hb3 := bind_some hb3
                obtain ⟨z1, hz1, hb3⟩ := hb3
                refine lw_op rfl rfl rfl (ow_append (R := RSpan) rfl rfl rfl rfl Tryd.underlying58 hi76 hz76 hs76 hy76 rfl rfl rfl rfl hr24 hw4 hz1 hC26 fun v17 w27 M4 hr25 hb5 hl27 hC27 hM2 hat2 => ?_)
                refine lw_op rfl rfl rfl (ow_assign rfl rfl ?_)
                refine lw_nil ?_
                refine ew_blockN ?_
                refine ew_then ?_
                refine cw_region ?_
                refine lw_op rfl rfl rfl (ow_move rfl rfl ?_)
                refine lw_op rfl rfl rfl (ow_add rfl rfl rfl ?_)
                refine lw_op rfl rfl rfl (ow_assign rfl rfl ?_)
                refine lw_nil ?_
                refine ew_nxt (z1, (W (k2 + 1))) hb3 fun a ha => ⟨M4, v17, ?_, ((((hl3.trans hl14).trans hl25).trans hl26).trans hl27), hC27, hr25⟩
                exact ha.sub ⟨rfl, rfl, rfl, rfl, rfl, trivial⟩
              · obtain rfl := hbb3.trans hc3
                refine cw_false rfl ?_
                refine cw_skip ?_
                refine ew_blockN ?_
                refine ew_then ?_
                refine cw_region ?_
                refine lw_op rfl rfl rfl (ow_move rfl rfl ?_)
                refine lw_op rfl rfl rfl (ow_add rfl rfl rfl ?_)
                refine lw_op rfl rfl rfl (ow_assign rfl rfl ?_)
                refine lw_nil ?_
                refine ew_nxt (y2, (W (k2 + 1))) hb3 fun a ha => ⟨M3, v3, ?_, ((hl3.trans hl14).trans hl25), hC25, hr23⟩
                exact ha.sub ⟨rfl, rfl, rfl, rfl, rfl, trivial⟩
        · obtain rfl := hbb2.trans hc2
          refine cw_false rfl ?_
          refine cw_exit ?_
          refine ew_thenX ?_
          refine ew_thenX ?_
          refine ew_blockX ?_
          refine ew_brk (y2, k2) hb3 fun a ha => ⟨M3, v3, ?_, hl3, hC3, hw2⟩
          exact ha.sub ⟨rfl, rfl, rfl, rfl, rfl, trivial⟩
      · rintro ⟨y3, k3⟩ a w28 hlr3 ⟨M5, v18, hF3, hl28, hC28, hw5⟩
        subst hlr3
        refine ew_at (E := [(0, v0p), (1, v1p), (5, v18), (6, (.int .i64 k1)), (7, (.int .i64 k3))]) hF3 ?_
        refine ew_blockN ?_
        refine ew_then ?_
        refine cw_region ?_
        refine lw_op rfl rfl rfl (ow_move rfl rfl ?_)
        refine lw_op rfl rfl rfl (ow_add rfl rfl rfl ?_)
        refine lw_op rfl rfl rfl (ow_assign rfl rfl ?_)
        refine lw_nil ?_
        refine ew_nxt (y3, (W (k1 + 1))) hb2 fun a ha => ⟨M5, v18, ?_, (hl2.trans hl28), hC28, hw5⟩
        exact ha.sub ⟨rfl, rfl, rfl, rfl, trivial⟩
    · obtain rfl := hbb1.trans hc1
      refine cw_false rfl ?_
      refine cw_exit ?_
      refine ew_thenX ?_
      refine ew_thenX ?_
      refine ew_blockX ?_
      refine ew_brk (y1, k1) hb2 fun a ha => ⟨M2, v1, ?_, hl2, hC2, hw1⟩
      exact ha.sub ⟨rfl, rfl, rfl, rfl, trivial⟩
  · rintro ⟨y4, k4⟩ a w29 hlr4 ⟨M6, v20, hF4, hl29, hC29, hw6⟩
    subst hlr4
    refine ew_at (E := [(0, v0p), (1, v1p), (5, v20), (6, (.int .i64 k4))]) hF4 ?_
    refine ew_then ?_
    refine cw_seq ?_
    refine cw_region ?_
    refine lw_op rfl rfl rfl (ow_move rfl rfl ?_)
    refine lw_op rfl rfl rfl (ow_assign rfl rfl ?_)
    refine lw_nil ?_
    refine ew_then ?_
    refine cw_ret ?_
    obtain rfl := Option.some.inj h
    exact ew_ret (res1 rfl (.tmp rfl)) ⟨_, rfl, (hw6.freezeBack hC29 hO), hC29.bx⟩

theorem w_spec_l2Other {w : World} {M : Nat → Prop} (_hG : ARep (RArr 4 RShape) w M shapes ⟨0, 0, none⟩) (hO : ∀ b, M b → b < w.heap.size) {v0p : Value} {a_a : List Span} (h0 : VRep (RSlice RSpan) w M a_a v0p) {a_top : Int} {r : (List Span)} (h : F.spec_l2Other a_a a_top = some r) :
    Calls Tryd.prog 97 [v0p, (.int .i64 a_top)].toArray w fun e w' => ∃ v, e = .returned v ∧ VRep (RSlice RSpan) w' M r v ∧ BX No w w' := by
  obtain ⟨i76, hi76, hz76, hs76, hy76⟩ := info76
  have hC : Cx No w M w M := Cx.start hO (fun _ e => e.elim)
  clear _hG
  refine walk (N := 49) Tryd.func97 rfl Tryd.ntmps97 rfl ?_
  refine cw_seq ?_
  refine cw_region ?_
  refine lw_op rfl rfl rfl (ow_assign rfl rfl ?_)
  refine lw_nil ?_
  refine ew_then ?_
  refine cw_seq ?_
  refine cw_region ?_
  refine lw_op rfl rfl rfl (ow_buildSlice0 (R := RSpan) (e := 76) rfl (by kernel_rfl) hC fun p1 w1 M1 hr1 hb1 hl1 hC1 hM1 hat1 => ?_)
  refine lw_op rfl rfl rfl (ow_assign rfl rfl ?_)
  refine lw_nil ?_
  refine ew_then ?_
  refine cw_seq ?_
  refine cw_region ?_
  refine lw_op rfl rfl rfl (ow_assign rfl rfl ?_)
  refine lw_nil ?_
  refine ew_then ?_
  refine cw_seq ?_
  refine cw_seq ?_
  refine cw_region ?_
  refine lw_op rfl rfl rfl (ow_assign rfl rfl ?_)
  refine lw_nil ?_
  refine ew_then ?_
  replace h := bind_some h
  obtain ⟨lr1, hlr1, h⟩ := h
  refine cw_for hlr1 (fun s a w' => ∃ (M' : Nat → Prop) (v0c : Value), Fits 49 [(0, v0p), (1, (.int .i64 a_top)), (5, v0c), (6, (.int .i64 s.2.1)), (7, (.int .i64 s.2.2))] a ∧ Le w1 M1 w' M' ∧ Cx No w M w' M' ∧ OwnRow RSpan w.heap.size 76 w' M' s.1 v0c) ?_ ?_ ?_
  · intro a ha
    exact ⟨M1, (.slice (some p1) 0 0), ha.sub ⟨rfl, rfl, rfl, rfl, rfl, trivial⟩, Le.refl _ _, hC1, hr1⟩
  · rintro ⟨y1, k1, k2⟩ a w2 sr1 ⟨M2, v1, hF1, hl2, hC2, hw1⟩ hb2 hR1
    refine cw_at (E := [(0, v0p), (1, (.int .i64 a_top)), (5, v1), (6, (.int .i64 k1)), (7, (.int .i64 k2))]) hF1 ?_
    refine cw_seq ?_
    refine cw_seq ?_
    refine cw_region ?_
    refine lw_op rfl rfl rfl (ow_move rfl rfl ?_)
    refine lw_op rfl rfl rfl (ow_move rfl rfl ?_)
    refine lw_op rfl rfl rfl (ow_len rfl rfl (VRep.mono (hl1.trans hl2) h0) Tryd.underlying58 rfl ?_)
    refine lw_op rfl rfl rfl (ow_lss rfl rfl rfl fun bb1 hbb1 => ?_)
    refine lw_nil ?_
    refine ew_then ?_
    replace hb2 := cond_some hb2
    rcases hb2 with ⟨hc1, hb2⟩ | ⟨hc1, hb2⟩
    · obtain rfl := hbb1.trans hc1
      refine cw_true rfl ?_
      refine cw_skip ?_
      refine ew_then ?_
      refine cw_seq ?_
      refine cw_block ?_
      refine cw_seq ?_
      refine cw_seq ?_
      refine cw_region ?_
      refine lw_op rfl rfl rfl (ow_move rfl rfl ?_)
      refine lw_op rfl rfl rfl (ow_move rfl rfl ?_)
      refine lw_op rfl rfl rfl (ow_move rfl rfl ?_)
      replace hb2 := bind_some hb2
      obtain ⟨x1, hx1, hb2⟩ := hb2
      refine lw_op rfl rfl rfl (ow_indexSlice (R := RSpan) rfl rfl rfl (VRep.mono (hl1.trans hl2) h0) Tryd.underlying58 (Tryd.sizeOf76 _) hx1 fun p2 hp2 => ?_)
      refine lw_op rfl rfl rfl (ow_fieldAddr rfl rfl Tryd.underlying76 rfl (Tryd.sizeOf3 _) ?_)
      refine lw_op rfl rfl rfl (ow_load (R := RInt) rfl rfl (hp2.fld fld_Span_Lo) (Tryd.sizeOf3 _) (Tryd.isAgg3 _) fun v4 hv4 => ?_)
      obtain rfl := vint_eq hv4
      refine lw_op rfl rfl rfl (ow_lss rfl rfl rfl fun bb2 hbb2 => ?_)
      refine lw_nil ?_
      refine ew_then ?_
      replace hb2 := cond_some hb2
      rcases hb2 with ⟨hc2, hb2⟩ | ⟨hc2, hb2⟩
      · obtain rfl := hbb2.trans hc2
        refine cw_true rfl ?_
        refine cw_region ?_
        refine lw_op rfl rfl rfl (ow_move rfl rfl ?_)
        refine lw_op rfl rfl rfl (ow_move rfl rfl ?_)
        refine lw_op rfl rfl rfl (ow_move rfl rfl ?_)
        refine lw_op rfl rfl rfl (ow_move rfl rfl ?_)
        refine lw_op rfl rfl rfl (ow_indexSlice (R := RSpan) rfl rfl rfl (VRep.mono (hl1.trans hl2) h0) Tryd.underlying58 (Tryd.sizeOf76 _) hx1 fun p3 hp3 => ?_)
        refine lw_op rfl rfl rfl (ow_fieldAddr rfl rfl Tryd.underlying76 rfl (Tryd.sizeOf3 _) ?_)
        refine lw_op rfl rfl rfl (ow_load (R := RInt) rfl rfl (hp3.fld fld_Span_Lo) (Tryd.sizeOf3 _) (Tryd.isAgg3 _) fun v5 hv5 => ?_)
        obtain rfl := vint_eq hv5
        refine lw_op rfl rfl rfl (ow_sub rfl rfl rfl ?_)
        refine lw_op rfl rfl rfl (ow_build (v := .agg #[(.int .i64 k1), (.int .i64 (W (x1.Lo - 1)))]) rfl rfl (by kernel_rfl) ?_)
        have hw2 : VRep RSpan w2 M2 ({ Lo := k1, Hi := (W (x1.Lo - 1)) } : Span) (.agg #[(.int .i64 k1), (.int .i64 (W (x1.Lo - 1)))]) := shut_Span
        refine lw_op rfl rfl rfl (ow_buildSlice (R := RSpan) (xs := [({ Lo := k1, Hi := (W (x1.Lo - 1)) } : Span)]) (cs := #[(.int .i64 k1), (.int .i64 (W (x1.Lo - 1)))]) (e := 76) rfl rfl (by kernel_rfl) rfl rfl ⟨_, _, rfl, hw2.cells, rfl⟩ hC2 fun p4 w3 hw3 hb3 hl3 hC3 => ?_)
        have hr2 := hw1.no hb3
        replace hb2 := bind_some hb2
        obtain ⟨z1, hz1, hb2⟩ := hb2
        refine lw_op rfl rfl rfl (ow_append (R := RSpan) rfl rfl rfl rfl Tryd.underlying58 hi76 hz76 hs76 hy76 rfl rfl rfl rfl hr2 hw3 hz1 hC3 fun v6 w4 M3 hr3 hb4 hl4 hC4 hM2 hat2 => ?_)
        refine lw_op rfl rfl rfl (ow_assign rfl rfl ?_)
        refine lw_nil ?_
        refine ew_then ?_
        refine cw_region ?_
        refine lw_op rfl rfl rfl (ow_move rfl rfl ?_)
        refine lw_op rfl rfl rfl (ow_move rfl rfl ?_)
        refine lw_op rfl rfl rfl (ow_indexSlice (R := RSpan) rfl rfl rfl (VRep.mono (((hl1.trans hl2).trans hl3).trans hl4) h0) Tryd.underlying58 (Tryd.sizeOf76 _) hx1 fun p5 hp5 => ?_)
        refine lw_op rfl rfl rfl (ow_fieldAddr rfl rfl Tryd.underlying76 rfl (Tryd.sizeOf3 _) ?_)
        refine lw_op rfl rfl rfl (ow_load (R := RInt) rfl rfl (hp5.fld fld_Span_Hi) (Tryd.sizeOf3 _) (Tryd.isAgg3 _) fun v7 hv7 => ?_)
        obtain rfl := vint_eq hv7
        refine lw_op rfl rfl rfl (ow_add rfl rfl rfl ?_)
        refine lw_op rfl rfl rfl (ow_assign rfl rfl ?_)
        refine lw_nil ?_
        refine ew_blockN ?_
        refine ew_then ?_
        refine cw_region ?_
        refine lw_op rfl rfl rfl (ow_move rfl rfl ?_)
        refine lw_op rfl rfl rfl (ow_add rfl rfl rfl ?_)
        refine lw_op rfl rfl rfl (ow_assign rfl rfl ?_)
        refine lw_nil ?_
        refine ew_nxt (z1, (W (x1.Hi + 1)), (W (k2 + 1))) hb2 fun a ha => ⟨M3, v6, ?_, ((hl2.trans hl3).trans hl4), hC4, hr3⟩
        exact ha.sub ⟨rfl, rfl, rfl, rfl, rfl, trivial⟩
      · obtain rfl := hbb2.trans hc2
        refine cw_false rfl ?_
        refine cw_skip ?_
        refine ew_then ?_
        refine cw_region ?_
        refine lw_op rfl rfl rfl (ow_move rfl rfl ?_)
        refine lw_op rfl rfl rfl (ow_move rfl rfl ?_)
        refine lw_op rfl rfl rfl (ow_indexSlice (R := RSpan) rfl rfl rfl (VRep.mono (hl1.trans hl2) h0) Tryd.underlying58 (Tryd.sizeOf76 _) hx1 fun p6 hp6 => ?_)
        refine lw_op rfl rfl rfl (ow_fieldAddr rfl rfl Tryd.underlying76 rfl (Tryd.sizeOf3 _) ?_)
        refine lw_op rfl rfl rfl (ow_load (R := RInt) rfl rfl (hp6.fld fld_Span_Hi) (Tryd.sizeOf3 _) (Tryd.isAgg3 _) fun v8 hv8 => ?_)
        obtain rfl := vint_eq hv8
        refine lw_op rfl rfl rfl (ow_add rfl rfl rfl ?_)
        refine lw_op rfl rfl rfl (ow_assign rfl rfl ?_)
        refine lw_nil ?_
        refine ew_blockN ?_
        refine ew_then ?_
        refine cw_region ?_
        refine lw_op rfl rfl rfl (ow_move rfl rfl ?_)
        refine lw_op rfl rfl rfl (ow_add rfl rfl rfl ?_)
        refine lw_op rfl rfl rfl (ow_assign rfl rfl ?_)
        refine lw_nil ?_
        refine ew_nxt (y1, (W (x1.Hi + 1)), (W (k2 + 1))) hb2 fun a ha => ⟨M2, v1, ?_, hl2, hC2, hw1⟩
        exact ha.sub ⟨rfl, rfl, rfl, rfl, rfl, trivial⟩
    · obtain rfl := hbb1.trans hc1
      refine cw_false rfl ?_
      refine cw_exit ?_
      refine ew_thenX ?_
      refine ew_thenX ?_
      refine ew_blockX ?_
      refine ew_brk (y1, k1, k2) hb2 fun a ha => ⟨M2, v1, ?_, hl2, hC2, hw1⟩
      exact ha.sub ⟨rfl, rfl, rfl, rfl, rfl, trivial⟩
  · rintro ⟨y2, k3, k4⟩ a w5 hlr2 ⟨M4, v9, hF2, hl5, hC5, hw4⟩
    subst hlr2
    refine ew_at (E := [(0, v0p), (1, (.int .i64 a_top)), (5, v9), (6, (.int .i64 k3)), (7, (.int .i64 k4))]) hF2 ?_
    refine ew_then ?_
    refine cw_seq ?_
    refine cw_seq ?_
    refine cw_region ?_
    refine lw_op rfl rfl rfl (ow_move rfl rfl ?_)
    refine lw_op rfl rfl rfl (ow_move rfl rfl ?_)
    refine lw_op rfl rfl rfl (ow_leq rfl rfl rfl fun bb3 hbb3 => ?_)
    refine lw_nil ?_
    refine ew_then ?_
    replace h := cond_some h
    rcases h with ⟨hc3, h⟩ | ⟨hc3, h⟩
    · obtain rfl := hbb3.trans hc3
      refine cw_true rfl ?_
      refine cw_region ?_
      refine lw_op rfl rfl rfl (ow_move rfl rfl ?_)
      refine lw_op rfl rfl rfl (ow_move rfl rfl ?_)
      refine lw_op rfl rfl rfl (ow_move rfl rfl ?_)
      refine lw_op rfl rfl rfl (ow_build (v := .agg #[(.int .i64 k3), (.int .i64 a_top)]) rfl rfl (by kernel_rfl) ?_)
      have hw5 : VRep RSpan w5 M4 ({ Lo := k3, Hi := a_top } : Span) (.agg #[(.int .i64 k3), (.int .i64 a_top)]) := shut_Span
      refine lw_op rfl rfl rfl (ow_buildSlice (R := RSpan) (xs := [({ Lo := k3, Hi := a_top } : Span)]) (cs := #[(.int .i64 k3), (.int .i64 a_top)]) (e := 76) rfl rfl (by kernel_rfl) rfl rfl ⟨_, _, rfl, hw5.cells, rfl⟩ hC5 fun p7 w6 hw6 hb5 hl6 hC6 => ?_)
      have hr4 := hw4.no hb5
      replace h := bind_some h
      obtain ⟨z2, hz2, h⟩ := h
      refine lw_op rfl rfl rfl (ow_append (R := RSpan) rfl rfl rfl rfl Tryd.underlying58 hi76 hz76 hs76 hy76 rfl rfl rfl rfl hr4 hw6 hz2 hC6 fun v12 w7 M5 hr5 hb6 hl7 hC7 hM3 hat3 => ?_)
      refine lw_op rfl rfl rfl (ow_assign rfl rfl ?_)
      refine lw_nil ?_
      refine ew_then ?_
      refine cw_seq ?_
      refine cw_region ?_
      refine lw_op rfl rfl rfl (ow_move rfl rfl ?_)
      refine lw_op rfl rfl rfl (ow_assign rfl rfl ?_)
      refine lw_nil ?_
      refine ew_then ?_
      refine cw_ret ?_
      obtain rfl := Option.some.inj h
      exact ew_ret (res1 rfl (.tmp rfl)) ⟨_, rfl, (hr5.freezeBack hC7 hO), hC7.bx⟩
    · obtain rfl := hbb3.trans hc3
      refine cw_false rfl ?_
      refine cw_skip ?_
      refine ew_then ?_
      refine cw_seq ?_
      refine cw_region ?_
      refine lw_op rfl rfl rfl (ow_move rfl rfl ?_)
      refine lw_op rfl rfl rfl (ow_assign rfl rfl ?_)
      refine lw_nil ?_
      refine ew_then ?_
      refine cw_ret ?_
      obtain rfl := Option.some.inj h
      exact ew_ret (res1 rfl (.tmp rfl)) ⟨_, rfl, (hw4.freezeBack hC5 hO), hC5.bx⟩

theorem w_spec_TestSpans {w : World} {M : Nat → Prop} (hG : ARep (RArr 4 RShape) w M shapes ⟨0, 0, none⟩) (hO : ∀ b, M b → b < w.heap.size) {v0p : Value} {a_t : Test} (h0 : VRep RTest w M a_t v0p) {r : (List Span)} (h : F.spec_TestSpans a_t = some r) :
    Calls Tryd.prog 61 [v0p].toArray w fun e w' => ∃ v, e = .returned v ∧ VRep (RSlice RSpan) w' M r v ∧ BX No w w' := by
  have hC : Cx No w M w M := Cx.start hO (fun _ e => e.elim)
  refine walk (N := 22) Tryd.func61 rfl Tryd.ntmps61 rfl ?_
  refine cw_seq ?_
  refine cw_region ?_
  refine lw_op rfl rfl rfl (ow_box (R := RTest) rfl rfl h0 hC fun p1 w1 hp1 hb1 hl1 hC1 => ?_)
  refine lw_op rfl rfl rfl (ow_assign rfl rfl ?_)
  refine lw_nil ?_
  refine ew_then ?_
  refine cw_seq ?_
  refine cw_seq ?_
  refine cw_region ?_
  refine lw_op rfl rfl rfl (ow_load (R := RTest) rfl rfl hp1 (Tryd.sizeOf31 _) (Tryd.isAgg31 _) fun v1 hv1 => ?_)
  replace h := bind_some h
  obtain ⟨x1, hx1, h⟩ := h
  refine lw_op rfl rfl rfl (ow_call rfl rfl Tryd.call64 (w_spec_TestValid (hG.mono hl1) hC1.old hv1 hx1) fun v2 w2 hv2 => ?_)
  obtain ⟨hv2, hb2⟩ := hv2
  have hl2 := Le.no M hb2
  have hC2 := hC1.no hb2
  obtain rfl := vbool_eq hv2
  refine lw_op rfl rfl rfl (ow_not rfl rfl ?_)
  refine lw_nil ?_
  refine ew_then ?_
  replace h := cond_some h
  rcases h with ⟨hc1, h⟩ | ⟨hc1, h⟩
  · subst hc1
    refine cw_false rfl ?_
    refine cw_skip ?_
    refine ew_then ?_
    refine cw_seq ?_
    refine cw_region ?_
    refine lw_op rfl rfl rfl (ow_fieldAddr rfl rfl Tryd.underlying31 rfl (Tryd.sizeOf3 _) ?_)
    refine lw_op rfl rfl rfl (ow_load (R := RInt) rfl rfl (ARep.mono hl2 (hp1.fld fld_Test_Lo)) (Tryd.sizeOf3 _) (Tryd.isAgg3 _) fun v3 hv3 => ?_)
    obtain rfl := vint_eq hv3
    refine lw_op rfl rfl rfl (ow_fieldAddr rfl rfl Tryd.underlying31 rfl (Tryd.sizeOf3 _) ?_)
    refine lw_op rfl rfl rfl (ow_load (R := RInt) rfl rfl (ARep.mono hl2 (hp1.fld fld_Test_Hi)) (Tryd.sizeOf3 _) (Tryd.isAgg3 _) fun v4 hv4 => ?_)
    obtain rfl := vint_eq hv4
    refine lw_op rfl rfl rfl (ow_build (v := .agg #[(.int .i64 a_t.Lo), (.int .i64 a_t.Hi)]) rfl rfl (by kernel_rfl) ?_)
    have hw1 : VRep RSpan w2 M ({ Lo := a_t.Lo, Hi := a_t.Hi } : Span) (.agg #[(.int .i64 a_t.Lo), (.int .i64 a_t.Hi)]) := shut_Span
    refine lw_op rfl rfl rfl (ow_buildSlice (R := RSpan) (xs := [({ Lo := a_t.Lo, Hi := a_t.Hi } : Span)]) (cs := #[(.int .i64 a_t.Lo), (.int .i64 a_t.Hi)]) (e := 76) rfl rfl (by kernel_rfl) rfl rfl ⟨_, _, rfl, hw1.cells, rfl⟩ hC2 fun p2 w3 hw2 hb3 hl3 hC3 => ?_)
    refine lw_op rfl rfl rfl (ow_assign rfl rfl ?_)
    refine lw_nil ?_
    refine ew_then ?_
    refine cw_seq ?_
    refine cw_seq ?_
    refine cw_region ?_
    refine lw_op rfl rfl rfl (ow_fieldAddr rfl rfl Tryd.underlying31 rfl (Tryd.sizeOf4 _) ?_)
    refine lw_op rfl rfl rfl (ow_load (R := RBool) rfl rfl (ARep.mono (hl2.trans hl3) (hp1.fld fld_Test_Not)) (Tryd.sizeOf4 _) (Tryd.isAgg4 _) fun v5 hv5 => ?_)
    obtain ⟨bb1, hbb1, rfl⟩ := vbool_ex hv5
    refine lw_nil ?_
    refine ew_then ?_
    replace h := cond_some h
    rcases h with ⟨hc2, h⟩ | ⟨hc2, h⟩
    · obtain rfl := hbb1.trans hc2
      refine cw_true rfl ?_
      refine cw_seq ?_
      refine cw_region ?_
      refine lw_op rfl rfl rfl (ow_move rfl rfl ?_)
      refine lw_op rfl rfl rfl (ow_fieldAddr rfl rfl Tryd.underlying31 rfl (Tryd.sizeOf3 _) ?_)
      refine lw_op rfl rfl rfl (ow_load (R := RInt) rfl rfl (ARep.mono (hl2.trans hl3) (hp1.fld fld_Test_Field)) (Tryd.sizeOf3 _) (Tryd.isAgg3 _) fun v6 hv6 => ?_)
      obtain rfl := vint_eq hv6
      replace h := bind_some h
      obtain ⟨x2, hx2, h⟩ := h
      refine lw_op rfl rfl rfl (ow_call rfl rfl Tryd.call81 (w_spec_FieldTop (hG.mono ((hl1.trans hl2).trans hl3)) hC3.old hx2) fun v7 w4 hv7 => ?_)
      obtain ⟨hv7, hb4⟩ := hv7
      have hl4 := Le.no M hb4
      have hC4 := hC3.no hb4
      obtain rfl := vint_eq hv7
      replace h := bind_some h
      obtain ⟨x3, hx3, h⟩ := h
      refine lw_op rfl rfl rfl (ow_call rfl rfl Tryd.call97 (w_spec_l2Other (hG.mono (((hl1.trans hl2).trans hl3).trans hl4)) hC4.old (VRep.mono hl4 hw2) hx3) fun v8 w5 hv8 => ?_)
      obtain ⟨hv8, hb5⟩ := hv8
      have hl5 := Le.no M hb5
      have hC5 := hC4.no hb5
      refine lw_op rfl rfl rfl (ow_assign rfl rfl ?_)
      refine lw_nil ?_
      refine ew_then ?_
      refine cw_ret ?_
      refine ew_thenR ?_
      obtain rfl := Option.some.inj h
      exact ew_ret (res1 rfl (.tmp rfl)) ⟨_, rfl, (VRep.mono hC5.back hv8), hC5.bx⟩
    · obtain rfl := hbb1.trans hc2
      refine cw_false rfl ?_
      refine cw_skip ?_
      refine ew_then ?_
      refine cw_seq ?_
      refine cw_region ?_
      refine lw_op rfl rfl rfl (ow_move rfl rfl ?_)
      refine lw_op rfl rfl rfl (ow_assign rfl rfl ?_)
      refine lw_nil ?_
      refine ew_then ?_
      refine cw_ret ?_
      obtain rfl := Option.some.inj h
      exact ew_ret (res1 rfl (.tmp rfl)) ⟨_, rfl, (VRep.mono hC3.back hw2), hC3.bx⟩
  · subst hc1
    refine cw_true rfl ?_
    refine cw_seq ?_
    refine cw_region ?_
    refine lw_op rfl rfl rfl (ow_buildSlice0I (R := RSpan) (e := 76) rfl (by kernel_rfl) hC2 fun p3 w6 hw3 hb6 hl6 hC6 => ?_)
    refine lw_op rfl rfl rfl (ow_assign rfl rfl ?_)
    refine lw_nil ?_
    refine ew_then ?_
    refine cw_ret ?_
    refine ew_thenR ?_
    obtain rfl := Option.some.inj h
    exact ew_ret (res1 rfl (.tmp rfl)) ⟨_, rfl, (VRep.mono hC6.back hw3), hC6.bx⟩

theorem w_spec_TestsBox {w : World} {M : Nat → Prop} (hG : ARep (RArr 4 RShape) w M shapes ⟨0, 0, none⟩) (hO : ∀ b, M b → b < w.heap.size) {v0p : Value} {a_list : List Test} (h0 : VRep (RSlice RTest) w M a_list v0p) {r : Box} (h : F.spec_TestsBox a_list = some r) :
    Calls Tryd.prog 18 [v0p].toArray w fun e w' => ∃ v, e = .returned v ∧ VRep RBox w' M r v ∧ BX No w w' := by
  have hC : Cx No w M w M := Cx.start hO (fun _ e => e.elim)
  refine walk (N := 38) Tryd.func18 rfl Tryd.ntmps18 rfl ?_
  refine cw_seq ?_
  refine cw_region ?_
  refine lw_op rfl rfl rfl (ow_alloc rfl (Tryd.zeroValue27 _) hC fun g1 w1 hg1 hg2 ho1 hb1 hl1 hC1 => ?_)
  have hm1 : (Add g1 M) g1 := .inl rfl
  refine lw_nil ?_
  refine ew_then ?_
  refine cw_seq ?_
  refine cw_seq ?_
  refine cw_region ?_
  refine lw_op rfl rfl rfl (ow_move rfl rfl ?_)
  replace h := bind_some h
  obtain ⟨x1, hx1, h⟩ := h
  refine lw_op rfl rfl rfl (ow_call rfl rfl Tryd.call26 (w_spec_TestsValid (hG.mono hl1) hC1.old (VRep.mono hl1 h0) hx1) fun v1 w2 hv1 => ?_)
  obtain ⟨hv1, hb2⟩ := hv1
  have hl2 := Le.no (Add g1 M) hb2
  have hC2 := hC1.no hb2
  have ho2 := ho1.no hb2
  obtain rfl := vbool_eq hv1
  refine lw_op rfl rfl rfl (ow_not rfl rfl ?_)
  refine lw_nil ?_
  refine ew_then ?_
  replace h := cond_some h
  rcases h with ⟨hc1, h⟩ | ⟨hc1, h⟩
  · subst hc1
    refine cw_false rfl ?_
    refine cw_skip ?_
    refine ew_then ?_
    refine cw_seq ?_
    refine cw_region ?_
    replace h := bind_some h
    obtain ⟨x2, hx2, h⟩ := h
    refine lw_op rfl rfl rfl (ow_call rfl rfl Tryd.call59 (wo_spec_BoxAll (hG.mono (hl1.trans hl2)) hC2.old hx2) fun v2 w3 hv2 => ?_)
    obtain ⟨⟨M1, v3, rfl, hr1, hk1⟩, hb3⟩ := hv2
    replace hr1 := hr1.base hC2.bx.size
    have hl3 := hk1.le
    have hC3 := hC2.trans hk1
    have ho3 := ho2.no hb3
    have hm2 := hk1.sup _ hm1
    obtain ⟨A1, c1, rfl⟩ := hr1.len
    refine lw_op rfl rfl rfl (ow_alloc rfl (Tryd.zeroValue27 _) hC3 fun g2 w4 hg3 hg4 ho4 hb4 hl4 hC4 => ?_)
    have hn1 := Nat.ne_of_lt (Nat.lt_of_lt_of_le ho3.lt hg3)
    have ho5 := ho3.no hb4
    have hm3 : (Add g2 M1) g1 := .inr hm2
    have hr2 := hr1.add hb4 hg3
    have hm4 : (Add g2 M1) g2 := .inl rfl
    refine lw_op0 rfl rfl (ow_store (X := No) (us := [(.slice A1 x2.Sides.length c1)]) (cs' := #[(.slice A1 x2.Sides.length c1)]) rfl rfl rfl rfl ho4 (Tryd.sizeOf27 _) rfl rfl rfl rfl hm4 (.inl hg4) rfl hC4 fun w5 ho6 hb5 hl5 hC5 => ?_)
    have ho7 := ho5.go hb5 (fun e => hn1 e)
    have hr3 := hr2.go hb5 (fun k hk e => (orow_ne hr2 ho4 (by decide)) (hk.trans (congrArg some e))) hl5 (fun _ h => h)
    refine lw_nil ?_
    refine ew_then ?_
    refine cw_seq ?_
    refine cw_seq ?_
    refine cw_region ?_
    refine lw_op rfl rfl rfl (ow_assign rfl rfl ?_)
    refine lw_nil ?_
    refine ew_then ?_
    replace h := bind_some h
    obtain ⟨lr1, hlr1, h⟩ := h
    refine cw_for hlr1 (fun s a w' => ∃ (M' : Nat → Prop), Fits 38 [(0, v0p), (2, (.pointer (some ⟨g1, 0, none⟩))), (3, (.pointer (some ⟨g2, 0, none⟩))), (4, (.int .i64 s.1))] a ∧ Le w5 (Add g2 M1) w' M' ∧ Cx No w M w' M' ∧ OwnRow (RSlice RSpan) w.heap.size 58 w' M' s.2 (.slice A1 x2.Sides.length c1) ∧ Own w' g1 27 #[(.slice none 0 0)] ∧ M' g1 ∧ Own w' g2 27 #[(.slice A1 x2.Sides.length c1)] ∧ M' g2) ?_ ?_ ?_
    · intro a ha
      exact ⟨(Add g2 M1), ha.sub ⟨rfl, rfl, rfl, rfl, trivial⟩, Le.refl _ _, hC5, hr3, ho7, hm3, ho6, hm4⟩
    · rintro ⟨k1, y1⟩ a w6 sr1 ⟨M2, hF1, hl6, hC6, hw1, ho8, hm5, ho9, hm6⟩ hb6 hR1
      refine cw_at (E := [(0, v0p), (2, (.pointer (some ⟨g1, 0, none⟩))), (3, (.pointer (some ⟨g2, 0, none⟩))), (4, (.int .i64 k1))]) hF1 ?_
      refine cw_seq ?_
      refine cw_seq ?_
      refine cw_region ?_
      refine lw_op rfl rfl rfl (ow_move rfl rfl ?_)
      refine lw_op rfl rfl rfl (ow_move rfl rfl ?_)
      refine lw_op rfl rfl rfl (ow_len rfl rfl (VRep.mono (((((hl1.trans hl2).trans hl3).trans hl4).trans hl5).trans hl6) h0) Tryd.underlying23 rfl ?_)
      refine lw_op rfl rfl rfl (ow_lss rfl rfl rfl fun bb1 hbb1 => ?_)
      refine lw_nil ?_
      refine ew_then ?_
      replace hb6 := cond_some hb6
      rcases hb6 with ⟨hc2, hb6⟩ | ⟨hc2, hb6⟩
      · obtain rfl := hbb1.trans hc2
        refine cw_true rfl ?_
        refine cw_skip ?_
        refine ew_then ?_
        refine cw_seq ?_
        refine cw_block ?_
        refine cw_seq ?_
        refine cw_region ?_
        refine lw_op rfl rfl rfl (ow_move rfl rfl ?_)
        refine lw_op rfl rfl rfl (ow_move rfl rfl ?_)
        replace hb6 := bind_some hb6
        obtain ⟨x3, hx3, hb6⟩ := hb6
        refine lw_op rfl rfl rfl (ow_indexSlice (R := RTest) rfl rfl rfl (VRep.mono (((((hl1.trans hl2).trans hl3).trans hl4).trans hl5).trans hl6) h0) Tryd.underlying23 (Tryd.sizeOf31 _) hx3 fun p1 hp1 => ?_)
        refine lw_op rfl rfl rfl (ow_fieldAddr rfl rfl Tryd.underlying31 rfl (Tryd.sizeOf3 _) ?_)
        refine lw_op rfl rfl rfl (ow_load (R := RInt) rfl rfl (hp1.fld fld_Test_Field) (Tryd.sizeOf3 _) (Tryd.isAgg3 _) fun v6 hv6 => ?_)
        obtain rfl := vint_eq hv6
        refine lw_op rfl rfl rfl (ow_assign rfl rfl ?_)
        refine lw_nil ?_
        refine ew_then ?_
        replace hb6 := bind_some hb6
        obtain ⟨x4, hx4, hb6⟩ := hb6
        replace hb6 := bind_some hb6
        obtain ⟨x5, hx5, hb6⟩ := hb6
        replace hb6 := bind_some hb6
        obtain ⟨x6, hx6, hb6⟩ := hb6
        refine cw_sub (E' := [(0, v0p), (2, (.pointer (some ⟨g1, 0, none⟩))), (3, (.pointer (some ⟨g2, 0, none⟩))), (4, (.int .i64 k1)), (5, (.int .i64 x3.Field))]) ⟨rfl, rfl, rfl, rfl, rfl, trivial⟩ ?_
        refine cw_drawQ 14 [PEq (.pointer (some ⟨g2, 0, none⟩)), PEq (.slice A1 x2.Sides.length c1), PEq (.int .i64 x3.Field), PEq (.pointer (some ⟨g2, 0, none⟩)), PEq (.slice A1 x2.Sides.length c1), PEq (.int .i64 x3.Field), PEq (.pointer (some ⟨blk (.slice A1 x2.Sides.length c1), (x3.Field : Int).toNat * (RSlice RSpan).size + 0, none⟩)), PV (RSlice RSpan) M2 x4, PV (RSlice RTest) M2 a_list, PEq (.int .i64 k1), PA RTest M2 x3, PV RTest M2 x3, PV (RSlice RSpan) M2 x5, PV (RSlice RSpan) M2 x6] (by kernel_rfl) rfl (by kernel_rfl) ⟨PEq.mono _, PEq.mono _, PEq.mono _, PEq.mono _, PEq.mono _, PEq.mono _, PEq.mono _, PV.mono _ _ _, PV.mono _ _ _, PEq.mono _, PA.mono _ _ _, PV.mono _ _ _, PV.mono _ _ _, PV.mono _ _ _, trivial⟩ ⟨?_, ?_, ?_, ?_, ?_, ?_, ?_, ?_, ?_, ?_, ?_, ?_, ?_, ?_, trivial⟩ ?_
        · intro w9 D hS1 hd1
          have hl9 := Le.no M2 hS1
          have hC9 := hC6.no hS1
          have ho14 := ho8.no hS1
          have ho15 := ho9.no hS1
          have hr6 := hw1.no hS1
          refine dg_sub (E' := [(3, (.pointer (some ⟨g2, 0, none⟩)))]) ⟨rfl, trivial⟩ ?_
          refine dg_plain rfl (ow_fieldAddr rfl rfl Tryd.underlying27 rfl (Tryd.sizeOf25 _) ?_)
          exact ⟨BX.refl _ _, rfl⟩
        · intro w10 D hS2 hd2
          have hl10 := Le.no M2 hS2
          have hC10 := hC6.no hS2
          have ho16 := ho8.no hS2
          have ho17 := ho9.no hS2
          have hr7 := hw1.no hS2
          have hd2 : PEq (.pointer (some ⟨g2, 0, none⟩)) (D 0) w10 ∧ True := hd2
          obtain ⟨d1, -⟩ := hd2
          refine dg_sub (E' := [(22, (.pointer (some ⟨g2, 0, none⟩)))]) ⟨(congrArg some d1), trivial⟩ ?_
          refine dg_plain rfl (ow_loadOwn1 rfl rfl rfl ho17 (Tryd.isAgg25 _) rfl ?_)
          exact ⟨BX.refl _ _, rfl⟩
        · intro w11 D hS3 hd3
          have hl11 := Le.no M2 hS3
          have hC11 := hC6.no hS3
          have ho18 := ho8.no hS3
          have ho19 := ho9.no hS3
          have hr8 := hw1.no hS3
          refine dg_sub (E' := [(5, (.int .i64 x3.Field))]) ⟨rfl, trivial⟩ ?_
          refine dg_plain rfl (ow_move rfl rfl ?_)
          exact ⟨BX.refl _ _, rfl⟩
        · intro w12 D hS4 hd4
          have hl12 := Le.no M2 hS4
          have hC12 := hC6.no hS4
          have ho20 := ho8.no hS4
          have ho21 := ho9.no hS4
          have hr9 := hw1.no hS4
          refine dg_sub (E' := [(3, (.pointer (some ⟨g2, 0, none⟩)))]) ⟨rfl, trivial⟩ ?_
          refine dg_plain rfl (ow_fieldAddr rfl rfl Tryd.underlying27 rfl (Tryd.sizeOf25 _) ?_)
          exact ⟨BX.refl _ _, rfl⟩
        · intro w13 D hS5 hd5
          have hl13 := Le.no M2 hS5
          have hC13 := hC6.no hS5
          have ho22 := ho8.no hS5
          have ho23 := ho9.no hS5
          have hr10 := hw1.no hS5
          have hd5 : PEq (.pointer (some ⟨g2, 0, none⟩)) (D 3) w13 ∧ True := hd5
          obtain ⟨d2, -⟩ := hd5
          refine dg_sub (E' := [(25, (.pointer (some ⟨g2, 0, none⟩)))]) ⟨(congrArg some d2), trivial⟩ ?_
          refine dg_plain rfl (ow_loadOwn1 rfl rfl rfl ho23 (Tryd.isAgg25 _) rfl ?_)
          exact ⟨BX.refl _ _, rfl⟩
        · intro w14 D hS6 hd6
          have hl14 := Le.no M2 hS6
          have hC14 := hC6.no hS6
          have ho24 := ho8.no hS6
          have ho25 := ho9.no hS6
          have hr11 := hw1.no hS6
          refine dg_sub (E' := [(5, (.int .i64 x3.Field))]) ⟨rfl, trivial⟩ ?_
          refine dg_plain rfl (ow_move rfl rfl ?_)
          exact ⟨BX.refl _ _, rfl⟩
        · intro w15 D hS7 hd7
          have hl15 := Le.no M2 hS7
          have hC15 := hC6.no hS7
          have ho26 := ho8.no hS7
          have ho27 := ho9.no hS7
          have hr12 := hw1.no hS7
          have hd7 : PEq (.slice A1 x2.Sides.length c1) (D 4) w15 ∧ PEq (.int .i64 x3.Field) (D 5) w15 ∧ True := hd7
          obtain ⟨d3, d4, -⟩ := hd7
          refine dg_sub (E' := [(26, (.slice A1 x2.Sides.length c1)), (27, (.int .i64 x3.Field))]) ⟨(congrArg some d3), (congrArg some d4), trivial⟩ ?_
          refine dg_plain rfl (ow_indexRow (R := (RSlice RSpan)) rfl rfl rfl hr12 Tryd.underlying25 (Tryd.sizeOf58 _) hx4 ?_)
          exact ⟨BX.refl _ _, rfl⟩
        · intro w16 D hS8 hd8
          have hl16 := Le.no M2 hS8
          have hC16 := hC6.no hS8
          have ho28 := ho8.no hS8
          have ho29 := ho9.no hS8
          have hr13 := hw1.no hS8
          have hd8 : PEq (.pointer (some ⟨blk (.slice A1 x2.Sides.length c1), (x3.Field : Int).toNat * (RSlice RSpan).size + 0, none⟩)) (D 6) w16 ∧ True := hd8
          obtain ⟨d5, -⟩ := hd8
          refine dg_sub (E' := [(28, (.pointer (some ⟨blk (.slice A1 x2.Sides.length c1), (x3.Field : Int).toNat * (RSlice RSpan).size + 0, none⟩)))]) ⟨(congrArg some d5), trivial⟩ ?_
          refine dg_plain rfl (ow_loadElRow (R := (RSlice RSpan)) (S := (RSlice RSpan)) rfl rfl rfl hr13 (orow_blk hr13 hx4) hx4 (Fld.whole (RSlice RSpan)) (Tryd.sizeOf58 _) (Tryd.isAgg58 _) fun v11 hv11 => ?_)
          exact ⟨BX.refl _ _, hv11⟩
        · intro w17 D hS9 hd9
          have hl17 := Le.no M2 hS9
          have hC17 := hC6.no hS9
          have ho30 := ho8.no hS9
          have ho31 := ho9.no hS9
          have hr14 := hw1.no hS9
          refine dg_sub (E' := [(0, v0p)]) ⟨rfl, trivial⟩ ?_
          refine dg_plain rfl (ow_move rfl rfl ?_)
          exact ⟨BX.refl _ _, (VRep.mono ((((((hl1.trans hl2).trans hl3).trans hl4).trans hl5).trans hl6).trans hl17) h0)⟩
        · intro w18 D hS10 hd10
          have hl18 := Le.no M2 hS10
          have hC18 := hC6.no hS10
          have ho32 := ho8.no hS10
          have ho33 := ho9.no hS10
          have hr15 := hw1.no hS10
          refine dg_sub (E' := [(4, (.int .i64 k1))]) ⟨rfl, trivial⟩ ?_
          refine dg_plain rfl (ow_move rfl rfl ?_)
          exact ⟨BX.refl _ _, rfl⟩
        · intro w19 D hS11 hd11
          have hl19 := Le.no M2 hS11
          have hC19 := hC6.no hS11
          have ho34 := ho8.no hS11
          have ho35 := ho9.no hS11
          have hr16 := hw1.no hS11
          have hd11 : PV (RSlice RTest) M2 a_list (D 8) w19 ∧ PEq (.int .i64 k1) (D 9) w19 ∧ True := hd11
          obtain ⟨d6, d7, -⟩ := hd11
          obtain ⟨v12, hq1⟩ : ∃ v, (D 8) = v := ⟨_, rfl⟩
          rw [hq1] at d6
          refine dg_sub (E' := [(30, v12), (31, (.int .i64 k1))]) ⟨(congrArg some hq1), (congrArg some d7), trivial⟩ ?_
          refine dg_plain rfl (ow_indexSlice (R := RTest) rfl rfl rfl d6 Tryd.underlying23 (Tryd.sizeOf31 _) hx3 fun p3 hp3 => ?_)
          exact ⟨BX.refl _ _, ⟨_, rfl, hp3⟩⟩
        · intro w20 D hS12 hd12
          have hl20 := Le.no M2 hS12
          have hC20 := hC6.no hS12
          have ho36 := ho8.no hS12
          have ho37 := ho9.no hS12
          have hr17 := hw1.no hS12
          have hd12 : PA RTest M2 x3 (D 10) w20 ∧ True := hd12
          obtain ⟨d8, -⟩ := hd12
          obtain ⟨p4, e1, ha1⟩ := d8
          refine dg_sub (E' := [(32, (.pointer (some p4)))]) ⟨(congrArg some e1), trivial⟩ ?_
          refine dg_plain rfl (ow_load (R := RTest) rfl rfl ha1 (Tryd.sizeOf31 _) (Tryd.isAgg31 _) fun v13 hv13 => ?_)
          exact ⟨BX.refl _ _, hv13⟩
        · intro w21 D hS13 hd13
          have hl21 := Le.no M2 hS13
          have hC21 := hC6.no hS13
          have ho38 := ho8.no hS13
          have ho39 := ho9.no hS13
          have hr18 := hw1.no hS13
          have hd13 : PV RTest M2 x3 (D 11) w21 ∧ True := hd13
          obtain ⟨d9, -⟩ := hd13
          obtain ⟨v14, hq2⟩ : ∃ v, (D 11) = v := ⟨_, rfl⟩
          rw [hq2] at d9
          refine dg_sub (E' := [(33, v14)]) ⟨(congrArg some hq2), trivial⟩ ?_
          refine dg_plain rfl (ow_call rfl rfl Tryd.call61 (w_spec_TestSpans (hG.mono ((((((hl1.trans hl2).trans hl3).trans hl4).trans hl5).trans hl6).trans hl21)) hC21.old d9 hx5) fun v15 w22 hv15 => ?_)
          obtain ⟨hv15, hb9⟩ := hv15
          have hl22 := Le.no M2 hb9
          have hC22 := hC21.no hb9
          have ho40 := ho38.no hb9
          have ho41 := ho39.no hb9
          have hr19 := hr18.no hb9
          exact ⟨hb9, hv15⟩
        · intro w23 D hS14 hd14
          have hl23 := Le.no M2 hS14
          have hC23 := hC6.no hS14
          have ho42 := ho8.no hS14
          have ho43 := ho9.no hS14
          have hr20 := hw1.no hS14
          have hd14 : PV (RSlice RSpan) M2 x4 (D 7) w23 ∧ PV (RSlice RSpan) M2 x5 (D 12) w23 ∧ PV (RSlice RSpan) M2 x5 (D 12) w23 ∧ True := hd14
          obtain ⟨d10, d11, d12, -⟩ := hd14
          obtain ⟨v16, hq3⟩ : ∃ v, (D 7) = v := ⟨_, rfl⟩
          rw [hq3] at d10
          obtain ⟨v17, hq4⟩ : ∃ v, (D 12) = v := ⟨_, rfl⟩
          rw [hq4] at d11
          refine dg_sub (E' := [(29, v16), (34, v17)]) ⟨(congrArg some hq3), (congrArg some hq4), trivial⟩ ?_
          refine dg_plain rfl (ow_call rfl rfl Tryd.call60 (w_spec_l2Meet (hG.mono ((((((hl1.trans hl2).trans hl3).trans hl4).trans hl5).trans hl6).trans hl23)) hC23.old d10 d11 hx6) fun v18 w24 hv18 => ?_)
          obtain ⟨hv18, hb10⟩ := hv18
          have hl24 := Le.no M2 hb10
          have hC24 := hC23.no hb10
          have ho44 := ho42.no hb10
          have ho45 := ho43.no hb10
          have hr21 := hr20.no hb10
          exact ⟨hb10, hv18⟩
        · intro w25 D hS15 hd15
          have hl25 := Le.no M2 hS15
          have hC25 := hC6.no hS15
          have ho46 := ho8.no hS15
          have ho47 := ho9.no hS15
          have hr22 := hw1.no hS15
          have hd15 : PEq (.pointer (some ⟨g2, 0, none⟩)) (D 0) w25 ∧ PEq (.slice A1 x2.Sides.length c1) (D 1) w25 ∧ PEq (.int .i64 x3.Field) (D 2) w25 ∧ PEq (.pointer (some ⟨g2, 0, none⟩)) (D 3) w25 ∧ PEq (.slice A1 x2.Sides.length c1) (D 4) w25 ∧ PEq (.int .i64 x3.Field) (D 5) w25 ∧ PEq (.pointer (some ⟨blk (.slice A1 x2.Sides.length c1), (x3.Field : Int).toNat * (RSlice RSpan).size + 0, none⟩)) (D 6) w25 ∧ PV (RSlice RSpan) M2 x4 (D 7) w25 ∧ PV (RSlice RTest) M2 a_list (D 8) w25 ∧ PEq (.int .i64 k1) (D 9) w25 ∧ PA RTest M2 x3 (D 10) w25 ∧ PV RTest M2 x3 (D 11) w25 ∧ PV (RSlice RSpan) M2 x5 (D 12) w25 ∧ PV (RSlice RSpan) M2 x6 (D 13) w25 ∧ True := hd15
          obtain ⟨-, d14, d15, -, -, -, -, -, -, -, -, -, -, d26, -⟩ := hd15
          obtain ⟨v19, hq5⟩ : ∃ v, (D 13) = v := ⟨_, rfl⟩
          rw [hq5] at d26
          refine lw_sub (E' := [(23, (.slice A1 x2.Sides.length c1)), (24, (.int .i64 x3.Field)), (35, v19), (0, v0p), (2, (.pointer (some ⟨g1, 0, none⟩))), (3, (.pointer (some ⟨g2, 0, none⟩))), (4, (.int .i64 k1)), (5, (.int .i64 x3.Field))]) ⟨(congrArg some d14), (congrArg some d15), (congrArg some hq5), rfl, rfl, rfl, rfl, rfl, trivial⟩ ?_
          refine lw_op rfl rfl rfl (ow_indexRow (R := (RSlice RSpan)) rfl rfl rfl hr22 Tryd.underlying25 (Tryd.sizeOf58 _) hx4 ?_)
          refine lw_op0 rfl rfl (ow_storeElRow (X := No) (R := (RSlice RSpan)) (S := (RSlice RSpan)) rfl rfl rfl rfl hr22 (orow_blk hr22 hx4) hx4 (FldSet.whole (RSlice RSpan)) (Tryd.sizeOf58 _) d26 (Nat.le_refl _) hC25 fun w26 ho48 hb11 hl26 hC26 => ?_)
          have ho49 := ho46.go hb11 (fun e => (orow_ne hr22 ho46 (by decide)) (by rw [orow_blk hr22 hx4]; exact congrArg some e.symm))
          have ho50 := ho47.go hb11 (fun e => (orow_ne hr22 ho47 (by decide)) (by rw [orow_blk hr22 hx4]; exact congrArg some e.symm))
          refine lw_nil ?_
          refine ew_blockN ?_
          refine ew_then ?_
          refine cw_region ?_
          refine lw_op rfl rfl rfl (ow_move rfl rfl ?_)
          refine lw_op rfl rfl rfl (ow_add rfl rfl rfl ?_)
          refine lw_op rfl rfl rfl (ow_assign rfl rfl ?_)
          refine lw_nil ?_
          refine ew_nxt ((W (k1 + 1)), (List.set y1 (x3.Field : Int).toNat x6)) hb6 fun a ha => ⟨M2, ?_, ((hl6.trans hl25).trans hl26), hC26, ho48, ho49, hm5, ho50, hm6⟩
          exact ha.sub ⟨rfl, rfl, rfl, rfl, trivial⟩
      · obtain rfl := hbb1.trans hc2
        refine cw_false rfl ?_
        refine cw_exit ?_
        refine ew_thenX ?_
        refine ew_thenX ?_
        refine ew_blockX ?_
        refine ew_brk (k1, y1) hb6 fun a ha => ⟨M2, ?_, hl6, hC6, hw1, ho8, hm5, ho9, hm6⟩
        exact ha.sub ⟨rfl, rfl, rfl, rfl, trivial⟩
    · rintro ⟨k2, y2⟩ a w27 hlr2 ⟨M3, hF2, hl27, hC27, hw2, ho51, hm7, ho52, hm8⟩
      subst hlr2
      refine ew_at (E := [(0, v0p), (2, (.pointer (some ⟨g1, 0, none⟩))), (3, (.pointer (some ⟨g2, 0, none⟩))), (4, (.int .i64 k2))]) hF2 ?_
      refine ew_then ?_
      refine cw_seq ?_
      refine cw_region ?_
      refine lw_op rfl rfl rfl (ow_loadOwnA rfl rfl rfl ho52 (Tryd.isAgg27 _) (Tryd.sizeOf27 _) rfl ?_)
      have hw3 := hw2.freezeDel
      have hC28 := hw2.cxDel hC27 (fun _ e => e.elim) hO
      have hl28 := Le.del w27 M3 (.slice A1 x2.Sides.length c1)
      have hm9 : (Del (.slice A1 x2.Sides.length c1) M3) g1 := ⟨hm7, fun e => (orow_ne hw2 ho51 (by decide)) e⟩
      have hm10 : (Del (.slice A1 x2.Sides.length c1) M3) g2 := ⟨hm8, fun e => (orow_ne hw2 ho52 (by decide)) e⟩
      have hw4 : VRep RBox w27 (Del (.slice A1 x2.Sides.length c1) M3) ({ Sides := y2 } : Box) (.agg #[(.slice A1 x2.Sides.length c1)]) := shut_Box hw3
      refine lw_op0 rfl rfl (ow_store (X := No) (us := [(.slice A1 x2.Sides.length c1)]) (cs' := #[(.slice A1 x2.Sides.length c1)]) rfl rfl rfl rfl ho51 (Tryd.sizeOf27 _) rfl rfl rfl rfl hm9 (.inl hg2) rfl hC28 fun w28 ho53 hb12 hl29 hC29 => ?_)
      have ho54 := ho52.go hb12 (fun e => hn1 e.symm)
      refine lw_nil ?_
      refine ew_then ?_
      refine cw_ret ?_
      have hw5 : VRep RBox w28 (Del (.slice A1 x2.Sides.length c1) M3) ({ Sides := y2 } : Box) (.agg #[(.slice A1 x2.Sides.length c1)]) := shut_Box (VRep.mono hl29 hw3)
      obtain rfl := Option.some.inj h
      exact ew_ret (res1 rfl (.cell rfl (own_loadVarA ho53 (Tryd.isAgg27 _) (Tryd.sizeOf27 _) rfl))) ⟨_, rfl, (hw5.mono hC29.back), hC29.bx⟩
  · subst hc1
    refine cw_true rfl ?_
    refine cw_seq ?_
    refine cw_region ?_
    refine lw_op rfl rfl rfl (ow_build (v := .agg #[(.slice none 0 0)]) rfl rfl (by kernel_rfl) ?_)
    have hw6 : VRep RBox w2 (Add g1 M) ({ Sides := ([] : List (List Span)) } : Box) (.agg #[(.slice none 0 0)]) := shut_Box (vslice_nil (R := (RSlice RSpan)) (w := w2) (M := (Add g1 M)))
    refine lw_op0 rfl rfl (ow_store (X := No) (us := [(.slice none 0 0)]) (cs' := #[(.slice none 0 0)]) rfl rfl rfl rfl ho2 (Tryd.sizeOf27 _) rfl rfl rfl rfl hm1 (.inl hg2) rfl hC2 fun w29 ho55 hb13 hl30 hC30 => ?_)
    refine lw_nil ?_
    refine ew_then ?_
    refine cw_ret ?_
    refine ew_thenR ?_
    have hw7 : VRep RBox w29 (Add g1 M) ({ Sides := ([] : List (List Span)) } : Box) (.agg #[(.slice none 0 0)]) := shut_Box (VRep.mono hl30 (vslice_nil (R := (RSlice RSpan)) (w := w2) (M := (Add g1 M))))
    obtain rfl := Option.some.inj h
    exact ew_ret (res1 rfl (.cell rfl (own_loadVarA ho55 (Tryd.isAgg27 _) (Tryd.sizeOf27 _) rfl))) ⟨_, rfl, (hw7.mono hC30.back), hC30.bx⟩

theorem wo_spec_TestsBox {w : World} {M : Nat → Prop} (hG : ARep (RArr 4 RShape) w M shapes ⟨0, 0, none⟩) (hO : ∀ b, M b → b < w.heap.size) {v0p : Value} {a_list : List Test} (h0 : VRep (RSlice RTest) w M a_list v0p) {r : Box} (h : F.spec_TestsBox a_list = some r) :
    Calls Tryd.prog 18 [v0p].toArray w fun e w' => ∃ v, e = .returned v ∧ (∃ M' u, v = .agg #[u] ∧ OwnRow (RSlice RSpan) w.heap.size 58 w' M' r.Sides u ∧ Cx No w M w' M') ∧ BX No w w' := by
  have hC : Cx No w M w M := Cx.start hO (fun _ e => e.elim)
  refine walk (N := 38) Tryd.func18 rfl Tryd.ntmps18 rfl ?_
  refine cw_seq ?_
  refine cw_region ?_
  refine lw_op rfl rfl rfl (ow_alloc rfl (Tryd.zeroValue27 _) hC fun g1 w1 hg1 hg2 ho1 hb1 hl1 hC1 => ?_)
  have hm1 : (Add g1 M) g1 := .inl rfl
  refine lw_nil ?_
  refine ew_then ?_
  refine cw_seq ?_
  refine cw_seq ?_
  refine cw_region ?_
  refine lw_op rfl rfl rfl (ow_move rfl rfl ?_)
  replace h := bind_some h
  obtain ⟨x1, hx1, h⟩ := h
  refine lw_op rfl rfl rfl (ow_call rfl rfl Tryd.call26 (w_spec_TestsValid (hG.mono hl1) hC1.old (VRep.mono hl1 h0) hx1) fun v1 w2 hv1 => ?_)
  obtain ⟨hv1, hb2⟩ := hv1
  have hl2 := Le.no (Add g1 M) hb2
  have hC2 := hC1.no hb2
  have ho2 := ho1.no hb2
  obtain rfl := vbool_eq hv1
  refine lw_op rfl rfl rfl (ow_not rfl rfl ?_)
  refine lw_nil ?_
  refine ew_then ?_
  replace h := cond_some h
  rcases h with ⟨hc1, h⟩ | ⟨hc1, h⟩
  · subst hc1
    refine cw_false rfl ?_
    refine cw_skip ?_
    refine ew_then ?_
    refine cw_seq ?_
    refine cw_region ?_
    replace h := bind_some h
    obtain ⟨x2, hx2, h⟩ := h
    refine lw_op rfl rfl rfl (ow_call rfl rfl Tryd.call59 (wo_spec_BoxAll (hG.mono (hl1.trans hl2)) hC2.old hx2) fun v2 w3 hv2 => ?_)
    obtain ⟨⟨M1, v3, rfl, hr1, hk1⟩, hb3⟩ := hv2
    replace hr1 := hr1.base hC2.bx.size
    have hl3 := hk1.le
    have hC3 := hC2.trans hk1
    have ho3 := ho2.no hb3
    have hm2 := hk1.sup _ hm1
    obtain ⟨A1, c1, rfl⟩ := hr1.len
    refine lw_op rfl rfl rfl (ow_alloc rfl (Tryd.zeroValue27 _) hC3 fun g2 w4 hg3 hg4 ho4 hb4 hl4 hC4 => ?_)
    have hn1 := Nat.ne_of_lt (Nat.lt_of_lt_of_le ho3.lt hg3)
    have ho5 := ho3.no hb4
    have hm3 : (Add g2 M1) g1 := .inr hm2
    have hr2 := hr1.add hb4 hg3
    have hm4 : (Add g2 M1) g2 := .inl rfl
    refine lw_op0 rfl rfl (ow_store (X := No) (us := [(.slice A1 x2.Sides.length c1)]) (cs' := #[(.slice A1 x2.Sides.length c1)]) rfl rfl rfl rfl ho4 (Tryd.sizeOf27 _) rfl rfl rfl rfl hm4 (.inl hg4) rfl hC4 fun w5 ho6 hb5 hl5 hC5 => ?_)
    have ho7 := ho5.go hb5 (fun e => hn1 e)
    have hr3 := hr2.go hb5 (fun k hk e => (orow_ne hr2 ho4 (by decide)) (hk.trans (congrArg some e))) hl5 (fun _ h => h)
    refine lw_nil ?_
    refine ew_then ?_
    refine cw_seq ?_
    refine cw_seq ?_
    refine cw_region ?_
    refine lw_op rfl rfl rfl (ow_assign rfl rfl ?_)
    refine lw_nil ?_
    refine ew_then ?_
    replace h := bind_some h
    obtain ⟨lr1, hlr1, h⟩ := h
    refine cw_for hlr1 (fun s a w' => ∃ (M' : Nat → Prop), Fits 38 [(0, v0p), (2, (.pointer (some ⟨g1, 0, none⟩))), (3, (.pointer (some ⟨g2, 0, none⟩))), (4, (.int .i64 s.1))] a ∧ Le w5 (Add g2 M1) w' M' ∧ Cx No w M w' M' ∧ OwnRow (RSlice RSpan) w.heap.size 58 w' M' s.2 (.slice A1 x2.Sides.length c1) ∧ Own w' g1 27 #[(.slice none 0 0)] ∧ M' g1 ∧ Own w' g2 27 #[(.slice A1 x2.Sides.length c1)] ∧ M' g2) ?_ ?_ ?_
    · intro a ha
      exact ⟨(Add g2 M1), ha.sub ⟨rfl, rfl, rfl, rfl, trivial⟩, Le.refl _ _, hC5, hr3, ho7, hm3, ho6, hm4⟩
    · rintro ⟨k1, y1⟩ a w6 sr1 ⟨M2, hF1, hl6, hC6, hw1, ho8, hm5, ho9, hm6⟩ hb6 hR1
      refine cw_at (E := [(0, v0p), (2, (.pointer (some ⟨g1, 0, none⟩))), (3, (.pointer (some ⟨g2, 0, none⟩))), (4, (.int .i64 k1))]) hF1 ?_
      refine cw_seq ?_
      refine cw_seq ?_
      refine cw_region ?_
      refine lw_op rfl rfl rfl (ow_move rfl rfl ?_)
      refine lw_op rfl rfl rfl (ow_move rfl rfl ?_)
      refine lw_op rfl rfl rfl (ow_len rfl rfl (VRep.mono (((((hl1.trans hl2).trans hl3).trans hl4).trans hl5).trans hl6) h0) Tryd.underlying23 rfl ?_)
      refine lw_op rfl rfl rfl (ow_lss rfl rfl rfl fun bb1 hbb1 => ?_)
      refine lw_nil ?_
      refine ew_then ?_
      replace hb6 := cond_some hb6
      rcases hb6 with ⟨hc2, hb6⟩ | ⟨hc2, hb6⟩
      · obtain rfl := hbb1.trans hc2
        refine cw_true rfl ?_
        refine cw_skip ?_
        refine ew_then ?_
        refine cw_seq ?_
        refine cw_block ?_
        refine cw_seq ?_
        refine cw_region ?_
        refine lw_op rfl rfl rfl (ow_move rfl rfl ?_)
        refine lw_op rfl rfl rfl (ow_move rfl rfl ?_)
        replace hb6 := bind_some hb6
        obtain ⟨x3, hx3, hb6⟩ := hb6
        refine lw_op rfl rfl rfl (ow_indexSlice (R := RTest) rfl rfl rfl (VRep.mono (((((hl1.trans hl2).trans hl3).trans hl4).trans hl5).trans hl6) h0) Tryd.underlying23 (Tryd.sizeOf31 _) hx3 fun p1 hp1 => ?_)
        refine lw_op rfl rfl rfl (ow_fieldAddr rfl rfl Tryd.underlying31 rfl (Tryd.sizeOf3 _) ?_)
        refine lw_op rfl rfl rfl (ow_load (R := RInt) rfl rfl (hp1.fld fld_Test_Field) (Tryd.sizeOf3 _) (Tryd.isAgg3 _) fun v6 hv6 => ?_)
        obtain rfl := vint_eq hv6
        refine lw_op rfl rfl rfl (ow_assign rfl rfl ?_)
        refine lw_nil ?_
        refine ew_then ?_
        replace hb6 := bind_some hb6
        obtain ⟨x4, hx4, hb6⟩ := hb6
        replace hb6 := bind_some hb6
        obtain ⟨x5, hx5, hb6⟩ := hb6
        replace hb6 := bind_some hb6
        obtain ⟨x6, hx6, hb6⟩ := hb6
        refine cw_sub (E' := [(0, v0p), (2, (.pointer (some ⟨g1, 0, none⟩))), (3, (.pointer (some ⟨g2, 0, none⟩))), (4, (.int .i64 k1)), (5, (.int .i64 x3.Field))]) ⟨rfl, rfl, rfl, rfl, rfl, trivial⟩ ?_
        refine cw_drawQ 14 [PEq (.pointer (some ⟨g2, 0, none⟩)), PEq (.slice A1 x2.Sides.length c1), PEq (.int .i64 x3.Field), PEq (.pointer (some ⟨g2, 0, none⟩)), PEq (.slice A1 x2.Sides.length c1), PEq (.int .i64 x3.Field), PEq (.pointer (some ⟨blk (.slice A1 x2.Sides.length c1), (x3.Field : Int).toNat * (RSlice RSpan).size + 0, none⟩)), PV (RSlice RSpan) M2 x4, PV (RSlice RTest) M2 a_list, PEq (.int .i64 k1), PA RTest M2 x3, PV RTest M2 x3, PV (RSlice RSpan) M2 x5, PV (RSlice RSpan) M2 x6] (by kernel_rfl) rfl (by kernel_rfl) ⟨PEq.mono _, PEq.mono _, PEq.mono _, PEq.mono _, PEq.mono _, PEq.mono _, PEq.mono _, PV.mono _ _ _, PV.mono _ _ _, PEq.mono _, PA.mono _ _ _, PV.mono _ _ _, PV.mono _ _ _, PV.mono _ _ _, trivial⟩ ⟨?_, ?_, ?_, ?_, ?_, ?_, ?_, ?_, ?_, ?_, ?_, ?_, ?_, ?_, trivial⟩ ?_
        · intro w9 D hS1 hd1
          have hl9 := Le.no M2 hS1
          have hC9 := hC6.no hS1
          have ho14 := ho8.no hS1
          have ho15 := ho9.no hS1
          have hr6 := hw1.no hS1
          refine dg_sub (E' := [(3, (.pointer (some ⟨g2, 0, none⟩)))]) ⟨rfl, trivial⟩ ?_
          refine dg_plain rfl (ow_fieldAddr rfl rfl Tryd.underlying27 rfl (Tryd.sizeOf25 _) ?_)
          exact ⟨BX.refl _ _, rfl⟩
        · intro w10 D hS2 hd2
          have hl10 := Le.no M2 hS2
          have hC10 := hC6.no hS2
          have ho16 := ho8.no hS2
          have ho17 := ho9.no hS2
          have hr7 := hw1.no hS2
          have hd2 : PEq (.pointer (some ⟨g2, 0, none⟩)) (D 0) w10 ∧ True := hd2
          obtain ⟨d1, -⟩ := hd2
          refine dg_sub (E' := [(22, (.pointer (some ⟨g2, 0, none⟩)))]) ⟨(congrArg some d1), trivial⟩ ?_
          refine dg_plain rfl (ow_loadOwn1 rfl rfl rfl ho17 (Tryd.isAgg25 _) rfl ?_)
          exact ⟨BX.refl _ _, rfl⟩
        · intro w11 D hS3 hd3
          have hl11 := Le.no M2 hS3
          have hC11 := hC6.no hS3
          have ho18 := ho8.no hS3
          have ho19 := ho9.no hS3
          have hr8 := hw1.no hS3
          refine dg_sub (E' := [(5, (.int .i64 x3.Field))]) ⟨rfl, trivial⟩ ?_
          refine dg_plain rfl (ow_move rfl rfl ?_)
          exact ⟨BX.refl _ _, rfl⟩
        · intro w12 D hS4 hd4
          have hl12 := Le.no M2 hS4
          have hC12 := hC6.no hS4
          have ho20 := ho8.no hS4
          have ho21 := ho9.no hS4
          have hr9 := hw1.no hS4
          refine dg_sub (E' := [(3, (.pointer (some ⟨g2, 0, none⟩)))]) ⟨rfl, trivial⟩ ?_
          refine dg_plain rfl (ow_fieldAddr rfl rfl Tryd.underlying27 rfl (Tryd.sizeOf25 _) ?_)
          exact ⟨BX.refl _ _, rfl⟩
        · intro w13 D hS5 hd5
          have hl13 := Le.no M2 hS5
          have hC13 := hC6.no hS5
          have ho22 := ho8.no hS5
          have ho23 := ho9.no hS5
          have hr10 := hw1.no hS5
          have hd5 : PEq (.pointer (some ⟨g2, 0, none⟩)) (D 3) w13 ∧ True := hd5
          obtain ⟨d2, -⟩ := hd5
          refine dg_sub (E' := [(25, (.pointer (some ⟨g2, 0, none⟩)))]) ⟨(congrArg some d2), trivial⟩ ?_
          refine dg_plain rfl (ow_loadOwn1 rfl rfl rfl ho23 (Tryd.isAgg25 _) rfl ?_)
          exact ⟨BX.refl _ _, rfl⟩
        · intro w14 D hS6 hd6
          have hl14 := Le.no M2 hS6
          have hC14 := hC6.no hS6
          have ho24 := ho8.no hS6
          have ho25 := ho9.no hS6
          have hr11 := hw1.no hS6
          refine dg_sub (E' := [(5, (.int .i64 x3.Field))]) ⟨rfl, trivial⟩ ?_
          refine dg_plain rfl (ow_move rfl rfl ?_)
          exact ⟨BX.refl _ _, rfl⟩
        · intro w15 D hS7 hd7
          have hl15 := Le.no M2 hS7
          have hC15 := hC6.no hS7
          have ho26 := ho8.no hS7
          have ho27 := ho9.no hS7
          have hr12 := hw1.no hS7
          have hd7 : PEq (.slice A1 x2.Sides.length c1) (D 4) w15 ∧ PEq (.int .i64 x3.Field) (D 5) w15 ∧ True := hd7
          obtain ⟨d3, d4, -⟩ := hd7
          refine dg_sub (E' := [(26, (.slice A1 x2.Sides.length c1)), (27, (.int .i64 x3.Field))]) ⟨(congrArg some d3), (congrArg some d4), trivial⟩ ?_
          refine dg_plain rfl (ow_indexRow (R := (RSlice RSpan)) rfl rfl rfl hr12 Tryd.underlying25 (Tryd.sizeOf58 _) hx4 ?_)
          exact ⟨BX.refl _ _, rfl⟩
        · intro w16 D hS8 hd8
          have hl16 := Le.no M2 hS8
          have hC16 := hC6.no hS8
          have ho28 := ho8.no hS8
          have ho29 := ho9.no hS8
          have hr13 := hw1.no hS8
          have hd8 : PEq (.pointer (some ⟨blk (.slice A1 x2.Sides.length c1), (x3.Field : Int).toNat * (RSlice RSpan).size + 0, none⟩)) (D 6) w16 ∧ True := hd8
          obtain ⟨d5, -⟩ := hd8
          refine dg_sub (E' := [(28, (.pointer (some ⟨blk (.slice A1 x2.Sides.length c1), (x3.Field : Int).toNat * (RSlice RSpan).size + 0, none⟩)))]) ⟨(congrArg some d5), trivial⟩ ?_
          refine dg_plain rfl (ow_loadElRow (R := (RSlice RSpan)) (S := (RSlice RSpan)) rfl rfl rfl hr13 (orow_blk hr13 hx4) hx4 (Fld.whole (RSlice RSpan)) (Tryd.sizeOf58 _) (Tryd.isAgg58 _) fun v11 hv11 => ?_)
          exact ⟨BX.refl _ _, hv11⟩
        · intro w17 D hS9 hd9
          have hl17 := Le.no M2 hS9
          have hC17 := hC6.no hS9
          have ho30 := ho8.no hS9
          have ho31 := ho9.no hS9
          have hr14 := hw1.no hS9
          refine dg_sub (E' := [(0, v0p)]) ⟨rfl, trivial⟩ ?_
          refine dg_plain rfl (ow_move rfl rfl ?_)
          exact ⟨BX.refl _ _, (VRep.mono ((((((hl1.trans hl2).trans hl3).trans hl4).trans hl5).trans hl6).trans hl17) h0)⟩
        · intro w18 D hS10 hd10
          have hl18 := Le.no M2 hS10
          have hC18 := hC6.no hS10
          have ho32 := ho8.no hS10
          have ho33 := ho9.no hS10
          have hr15 := hw1.no hS10
          refine dg_sub (E' := [(4, (.int .i64 k1))]) ⟨rfl, trivial⟩ ?_
          refine dg_plain rfl (ow_move rfl rfl ?_)
          exact ⟨BX.refl _ _, rfl⟩
        · intro w19 D hS11 hd11
          have hl19 := Le.no M2 hS11
          have hC19 := hC6.no hS11
          have ho34 := ho8.no hS11
          have ho35 := ho9.no hS11
          have hr16 := hw1.no hS11
          have hd11 : PV (RSlice RTest) M2 a_list (D 8) w19 ∧ PEq (.int .i64 k1) (D 9) w19 ∧ True := hd11
          obtain ⟨d6, d7, -⟩ := hd11
          obtain ⟨v12, hq1⟩ : ∃ v, (D 8) = v := ⟨_, rfl⟩
          rw [hq1] at d6
          refine dg_sub (E' := [(30, v12), (31, (.int .i64 k1))]) ⟨(congrArg some hq1), (congrArg some d7), trivial⟩ ?_
          refine dg_plain rfl (ow_indexSlice (R := RTest) rfl rfl rfl d6 Tryd.underlying23 (Tryd.sizeOf31 _) hx3 fun p3 hp3 => ?_)
          exact ⟨BX.refl _ _, ⟨_, rfl, hp3⟩⟩
        · intro w20 D hS12 hd12
          have hl20 := Le.no M2 hS12
          have hC20 := hC6.no hS12
          have ho36 := ho8.no hS12
          have ho37 := ho9.no hS12
          have hr17 := hw1.no hS12
          have hd12 : PA RTest M2 x3 (D 10) w20 ∧ True := hd12
          obtain ⟨d8, -⟩ := hd12
          obtain ⟨p4, e1, ha1⟩ := d8
          refine dg_sub (E' := [(32, (.pointer (some p4)))]) ⟨(congrArg some e1), trivial⟩ ?_
          refine dg_plain rfl (ow_load (R := RTest) rfl rfl ha1 (Tryd.sizeOf31 _) (Tryd.isAgg31 _) fun v13 hv13 => ?_)
          exact ⟨BX.refl _ _, hv13⟩
        · intro w21 D hS13 hd13
          have hl21 := Le.no M2 hS13
          have hC21 := hC6.no hS13
          have ho38 := ho8.no hS13
          have ho39 := ho9.no hS13
          have hr18 := hw1.no hS13
          have hd13 : PV RTest M2 x3 (D 11) w21 ∧ True := hd13
          obtain ⟨d9, -⟩ := hd13
          obtain ⟨v14, hq2⟩ : ∃ v, (D 11) = v := ⟨_, rfl⟩
          rw [hq2] at d9
          refine dg_sub (E' := [(33, v14)]) ⟨(congrArg some hq2), trivial⟩ ?_
          refine dg_plain rfl (ow_call rfl rfl Tryd.call61 (w_spec_TestSpans (hG.mono ((((((hl1.trans hl2).trans hl3).trans hl4).trans hl5).trans hl6).trans hl21)) hC21.old d9 hx5) fun v15 w22 hv15 => ?_)
          obtain ⟨hv15, hb9⟩ := hv15
          have hl22 := Le.no M2 hb9
          have hC22 := hC21.no hb9
          have ho40 := ho38.no hb9
          have ho41 := ho39.no hb9
          have hr19 := hr18.no hb9
          exact ⟨hb9, hv15⟩
        · intro w23 D hS14 hd14
          have hl23 := Le.no M2 hS14
          have hC23 := hC6.no hS14
          have ho42 := ho8.no hS14
          have ho43 := ho9.no hS14
          have hr20 := hw1.no hS14
          have hd14 : PV (RSlice RSpan) M2 x4 (D 7) w23 ∧ PV (RSlice RSpan) M2 x5 (D 12) w23 ∧ PV (RSlice RSpan) M2 x5 (D 12) w23 ∧ True := hd14
          obtain ⟨d10, d11, d12, -⟩ := hd14
          obtain ⟨v16, hq3⟩ : ∃ v, (D 7) = v := ⟨_, rfl⟩
          rw [hq3] at d10
          obtain ⟨v17, hq4⟩ : ∃ v, (D 12) = v := ⟨_, rfl⟩
          rw [hq4] at d11
          refine dg_sub (E' := [(29, v16), (34, v17)]) ⟨(congrArg some hq3), (congrArg some hq4), trivial⟩ ?_
          refine dg_plain rfl (ow_call rfl rfl Tryd.call60 (w_spec_l2Meet (hG.mono ((((((hl1.trans hl2).trans hl3).trans hl4).trans hl5).trans hl6).trans hl23)) hC23.old d10 d11 hx6) fun v18 w24 hv18 => ?_)
          obtain ⟨hv18, hb10⟩ := hv18
          have hl24 := Le.no M2 hb10
          have hC24 := hC23.no hb10
          have ho44 := ho42.no hb10
          have ho45 := ho43.no hb10
          have hr21 := hr20.no hb10
          exact ⟨hb10, hv18⟩
        · intro w25 D hS15 hd15
          have hl25 := Le.no M2 hS15
          have hC25 := hC6.no hS15
          have ho46 := ho8.no hS15
          have ho47 := ho9.no hS15
          have hr22 := hw1.no hS15
          have hd15 : PEq (.pointer (some ⟨g2, 0, none⟩)) (D 0) w25 ∧ PEq (.slice A1 x2.Sides.length c1) (D 1) w25 ∧ PEq (.int .i64 x3.Field) (D 2) w25 ∧ PEq (.pointer (some ⟨g2, 0, none⟩)) (D 3) w25 ∧ PEq (.slice A1 x2.Sides.length c1) (D 4) w25 ∧ PEq (.int .i64 x3.Field) (D 5) w25 ∧ PEq (.pointer (some ⟨blk (.slice A1 x2.Sides.length c1), (x3.Field : Int).toNat * (RSlice RSpan).size + 0, none⟩)) (D 6) w25 ∧ PV (RSlice RSpan) M2 x4 (D 7) w25 ∧ PV (RSlice RTest) M2 a_list (D 8) w25 ∧ PEq (.int .i64 k1) (D 9) w25 ∧ PA RTest M2 x3 (D 10) w25 ∧ PV RTest M2 x3 (D 11) w25 ∧ PV (RSlice RSpan) M2 x5 (D 12) w25 ∧ PV (RSlice RSpan) M2 x6 (D 13) w25 ∧ True := hd15
          obtain ⟨-, d14, d15, -, -, -, -, -, -, -, -, -, -, d26, -⟩ := hd15
          obtain ⟨v19, hq5⟩ : ∃ v, (D 13) = v := ⟨_, rfl⟩
          rw [hq5] at d26
          refine lw_sub (E' := [(23, (.slice A1 x2.Sides.length c1)), (24, (.int .i64 x3.Field)), (35, v19), (0, v0p), (2, (.pointer (some ⟨g1, 0, none⟩))), (3, (.pointer (some ⟨g2, 0, none⟩))), (4, (.int .i64 k1)), (5, (.int .i64 x3.Field))]) ⟨(congrArg some d14), (congrArg some d15), (congrArg some hq5), rfl, rfl, rfl, rfl, rfl, trivial⟩ ?_
          refine lw_op rfl rfl rfl (ow_indexRow (R := (RSlice RSpan)) rfl rfl rfl hr22 Tryd.underlying25 (Tryd.sizeOf58 _) hx4 ?_)
          refine lw_op0 rfl rfl (ow_storeElRow (X := No) (R := (RSlice RSpan)) (S := (RSlice RSpan)) rfl rfl rfl rfl hr22 (orow_blk hr22 hx4) hx4 (FldSet.whole (RSlice RSpan)) (Tryd.sizeOf58 _) d26 (Nat.le_refl _) hC25 fun w26 ho48 hb11 hl26 hC26 => ?_)
          have ho49 := ho46.go hb11 (fun e => (orow_ne hr22 ho46 (by decide)) (by rw [orow_blk hr22 hx4]; exact congrArg some e.symm))
          have ho50 := ho47.go hb11 (fun e => (orow_ne hr22 ho47 (by decide)) (by rw [orow_blk hr22 hx4]; exact congrArg some e.symm))
          refine lw_nil ?_
          refine ew_blockN ?_
          refine ew_then ?_
          refine cw_region ?_
          refine lw_op rfl rfl rfl (ow_move rfl rfl ?_)
          refine lw_op rfl rfl rfl (ow_add rfl rfl rfl ?_)
          refine lw_op rfl rfl rfl (ow_assign rfl rfl ?_)
          refine lw_nil ?_
          refine ew_nxt ((W (k1 + 1)), (List.set y1 (x3.Field : Int).toNat x6)) hb6 fun a ha => ⟨M2, ?_, ((hl6.trans hl25).trans hl26), hC26, ho48, ho49, hm5, ho50, hm6⟩
          exact ha.sub ⟨rfl, rfl, rfl, rfl, trivial⟩
      · obtain rfl := hbb1.trans hc2
        refine cw_false rfl ?_
        refine cw_exit ?_
        refine ew_thenX ?_
        refine ew_thenX ?_
        refine ew_blockX ?_
        refine ew_brk (k1, y1) hb6 fun a ha => ⟨M2, ?_, hl6, hC6, hw1, ho8, hm5, ho9, hm6⟩
        exact ha.sub ⟨rfl, rfl, rfl, rfl, trivial⟩
    · rintro ⟨k2, y2⟩ a w27 hlr2 ⟨M3, hF2, hl27, hC27, hw2, ho51, hm7, ho52, hm8⟩
      subst hlr2
      refine ew_at (E := [(0, v0p), (2, (.pointer (some ⟨g1, 0, none⟩))), (3, (.pointer (some ⟨g2, 0, none⟩))), (4, (.int .i64 k2))]) hF2 ?_
      refine ew_then ?_
      refine cw_seq ?_
      refine cw_region ?_
      refine lw_op rfl rfl rfl (ow_loadOwnA rfl rfl rfl ho52 (Tryd.isAgg27 _) (Tryd.sizeOf27 _) rfl ?_)
      refine lw_op0 rfl rfl (ow_store (X := No) (us := [(.slice A1 x2.Sides.length c1)]) (cs' := #[(.slice A1 x2.Sides.length c1)]) rfl rfl rfl rfl ho51 (Tryd.sizeOf27 _) rfl rfl rfl rfl hm7 (.inl hg2) rfl hC27 fun w28 ho53 hb12 hl28 hC28 => ?_)
      have ho54 := ho52.go hb12 (fun e => hn1 e.symm)
      have hr23 := hw2.go hb12 (fun k hk e => (orow_ne hw2 ho51 (by decide)) (hk.trans (congrArg some e))) hl28 (fun _ h => h)
      refine lw_nil ?_
      refine ew_then ?_
      refine cw_ret ?_
      obtain rfl := Option.some.inj h
      exact ew_ret (res1 rfl (.cell rfl (own_loadVarA ho53 (Tryd.isAgg27 _) (Tryd.sizeOf27 _) rfl))) ⟨_, rfl, ⟨M3, _, rfl, hr23, hC28⟩, hC28.bx⟩
  · subst hc1
    refine cw_true rfl ?_
    refine cw_seq ?_
    refine cw_region ?_
    refine lw_op rfl rfl rfl (ow_build (v := .agg #[(.slice none 0 0)]) rfl rfl (by kernel_rfl) ?_)
    have hw3 : VRep RBox w2 (Add g1 M) ({ Sides := ([] : List (List Span)) } : Box) (.agg #[(.slice none 0 0)]) := shut_Box (vslice_nil (R := (RSlice RSpan)) (w := w2) (M := (Add g1 M)))
    refine lw_op0 rfl rfl (ow_store (X := No) (us := [(.slice none 0 0)]) (cs' := #[(.slice none 0 0)]) rfl rfl rfl rfl ho2 (Tryd.sizeOf27 _) rfl rfl rfl rfl hm1 (.inl hg2) rfl hC2 fun w29 ho55 hb13 hl29 hC29 => ?_)
    refine lw_nil ?_
    refine ew_then ?_
    refine cw_ret ?_
    refine ew_thenR ?_
    obtain rfl := Option.some.inj h
    exact ew_ret (res1 rfl (.cell rfl (own_loadVarA ho55 (Tryd.isAgg27 _) (Tryd.sizeOf27 _) rfl))) ⟨_, rfl, ⟨(Add g1 M), _, rfl, ownrow_nil, hC29⟩, hC29.bx⟩

theorem w_impl_SpansHave {w : World} {M : Nat → Prop} (_hG : ARep (RArr 4 RShape) w M shapes ⟨0, 0, none⟩) (hO : ∀ b, M b → b < w.heap.size) {v0p : Value} {a_list : List Span} (h0 : VRep (RSlice RSpan) w M a_list v0p) {a_n : Int} {r : Bool} (h : F.impl_SpansHave a_list a_n = some r) :
    Calls Tryd.prog 40 [v0p, (.int .i64 a_n)].toArray w fun e w' => ∃ v, e = .returned v ∧ VRep RBool w' M r v ∧ BX No w w' := by
  have hC : Cx No w M w M := Cx.start hO (fun _ e => e.elim)
  clear _hG
  refine walk (N := 24) Tryd.func40 rfl Tryd.ntmps40 rfl ?_
  refine cw_seq ?_
  refine cw_region ?_
  refine lw_op rfl rfl rfl (ow_assign rfl rfl ?_)
  refine lw_nil ?_
  refine ew_then ?_
  refine cw_seq ?_
  refine cw_seq ?_
  refine cw_region ?_
  refine lw_op rfl rfl rfl (ow_move rfl rfl ?_)
  refine lw_op rfl rfl rfl (ow_len rfl rfl h0 Tryd.underlying58 rfl ?_)
  refine lw_op rfl rfl rfl (ow_move rfl rfl ?_)
  refine lw_nil ?_
  refine ew_then ?_
  replace h := bind_some h
  obtain ⟨lr1, hlr1, h⟩ := h
  refine cw_for hlr1 (fun s a w' => ∃ (M' : Nat → Prop), Fits 24 [(1, (.int .i64 a_n)), (7, v0p), (8, (.int .i64 (a_list.length : Int))), (9, (.int .i64 s))] a ∧ Le w M w' M' ∧ Cx No w M w' M') ?_ ?_ ?_
  · intro a ha
    exact ⟨M, ha.sub ⟨rfl, rfl, rfl, rfl, trivial⟩, Le.refl _ _, hC⟩
  · rintro k1 a w1 sr1 ⟨M1, hF1, hl1, hC1⟩ hb1 hR1
    refine cw_at (E := [(1, (.int .i64 a_n)), (7, v0p), (8, (.int .i64 (a_list.length : Int))), (9, (.int .i64 k1))]) hF1 ?_
    refine cw_seq ?_
    refine cw_region ?_
    refine lw_op rfl rfl rfl (ow_lss rfl rfl rfl fun bb1 hbb1 => ?_)
    refine lw_nil ?_
    refine ew_then ?_
    refine cw_seq ?_
    replace hb1 := cond_some hb1
    rcases hb1 with ⟨hc1, hb1⟩ | ⟨hc1, hb1⟩
    · obtain rfl := hbb1.trans hc1
      refine cw_true rfl ?_
      refine cw_skip ?_
      refine ew_then ?_
      refine cw_seq ?_
      refine cw_block ?_
      refine cw_seq ?_
      refine cw_region ?_
      replace hb1 := bind_some hb1
      obtain ⟨x1, hx1, hb1⟩ := hb1
      refine lw_op rfl rfl rfl (ow_indexSlice (R := RSpan) rfl rfl rfl (VRep.mono hl1 h0) Tryd.underlying58 (Tryd.sizeOf76 _) hx1 fun p1 hp1 => ?_)
      refine lw_op rfl rfl rfl (ow_load (R := RSpan) rfl rfl hp1 (Tryd.sizeOf76 _) (Tryd.isAgg76 _) fun v2 hv2 => ?_)
      refine lw_allocStore (R := RSpan) rfl rfl rfl rfl rfl rfl rfl Tryd.zeroValue76 Tryd.sizeOf76 rfl rfl rfl (by simp) hv2 hC1 fun p2 w2 hp2 hb2 hl2 hC2 => ?_
      refine lw_nil ?_
      refine ew_then ?_
      refine cw_seq ?_
      refine cw_region ?_
      refine lw_op rfl rfl rfl (ow_fieldAddr rfl rfl Tryd.underlying76 rfl (Tryd.sizeOf3 _) ?_)
      refine lw_op rfl rfl rfl (ow_load (R := RInt) rfl rfl (hp2.fld fld_Span_Lo) (Tryd.sizeOf3 _) (Tryd.isAgg3 _) fun v3 hv3 => ?_)
      obtain rfl := vint_eq hv3
      refine lw_op rfl rfl rfl (ow_move rfl rfl ?_)
      refine lw_op rfl rfl rfl (ow_leq rfl rfl rfl fun bb2 hbb2 => ?_)
      refine lw_op rfl rfl rfl (ow_move rfl rfl ?_)
      replace hb1 := cond_some hb1
      rcases hb1 with ⟨hc2, hb1⟩ | ⟨hc2, hb1⟩
      · obtain rfl := hbb2.trans hc2
        refine lw_on rfl rfl rfl rfl rfl rfl (ow_move rfl rfl ?_)
        refine lw_on rfl rfl rfl rfl rfl rfl (ow_fieldAddr rfl rfl Tryd.underlying76 rfl (Tryd.sizeOf3 _) ?_)
        refine lw_on rfl rfl rfl rfl rfl rfl (ow_load (R := RInt) rfl rfl (hp2.fld fld_Span_Hi) (Tryd.sizeOf3 _) (Tryd.isAgg3 _) fun v4 hv4 => ?_)
        obtain rfl := vint_eq hv4
        refine lw_on rfl rfl rfl rfl rfl rfl (ow_leq rfl rfl rfl fun bb3 hbb3 => ?_)
        refine lw_op rfl rfl rfl (ow_pickT rfl rfl rfl ?_)
        refine lw_nil ?_
        refine ew_then ?_
        replace hb1 := cond_some hb1
        rcases hb1 with ⟨hc3, hb1⟩ | ⟨hc3, hb1⟩
        · obtain rfl := hbb3.trans hc3
          refine cw_true rfl ?_
          refine cw_seq ?_
          refine cw_region ?_
          refine lw_op rfl rfl rfl (ow_assign rfl rfl ?_)
          refine lw_nil ?_
          refine ew_then ?_
          refine cw_ret ?_
          refine ew_blockR ?_
          refine ew_thenR ?_
          refine ew_thenR ?_
          refine ew_blockR ?_
          refine ew_brkR ?_
          refine ew_thenR ?_
          have e1 := hR1 _ (Option.some.inj hb1).symm
          subst e1
          obtain rfl := Option.some.inj h
          exact ew_ret (res1 rfl (.tmp rfl)) ⟨_, rfl, ((vbool _)), hC2.bx⟩
        · obtain rfl := hbb3.trans hc3
          refine cw_false rfl ?_
          refine cw_skip ?_
          refine ew_blockN ?_
          refine ew_then ?_
          refine cw_region ?_
          refine lw_op rfl rfl rfl (ow_add rfl rfl rfl ?_)
          refine lw_op rfl rfl rfl (ow_move rfl rfl ?_)
          refine lw_nil ?_
          refine ew_nxt (W (k1 + 1)) hb1 fun a ha => ⟨M1, ?_, (hl1.trans hl2), hC2⟩
          exact ha.sub ⟨rfl, rfl, rfl, rfl, trivial⟩
      · obtain rfl := hbb2.trans hc2
        refine lw_off rfl rfl rfl rfl rfl rfl ?_
        refine lw_off rfl rfl rfl rfl rfl rfl ?_
        refine lw_off rfl rfl rfl rfl rfl rfl ?_
        refine lw_off rfl rfl rfl rfl rfl rfl ?_
        refine lw_op rfl rfl rfl (ow_pickF rfl rfl rfl ?_)
        refine lw_nil ?_
        refine ew_then ?_
        refine cw_false rfl ?_
        refine cw_skip ?_
        refine ew_blockN ?_
        refine ew_then ?_
        refine cw_region ?_
        refine lw_op rfl rfl rfl (ow_add rfl rfl rfl ?_)
        refine lw_op rfl rfl rfl (ow_move rfl rfl ?_)
        refine lw_nil ?_
        refine ew_nxt (W (k1 + 1)) hb1 fun a ha => ⟨M1, ?_, (hl1.trans hl2), hC2⟩
        exact ha.sub ⟨rfl, rfl, rfl, rfl, trivial⟩
    · obtain rfl := hbb1.trans hc1
      refine cw_false rfl ?_
      refine cw_exit ?_
      refine ew_thenX ?_
      refine ew_thenX ?_
      refine ew_blockX ?_
      refine ew_brk k1 hb1 fun a ha => ⟨M1, ?_, hl1, hC1⟩
      exact ha.sub ⟨rfl, rfl, rfl, rfl, trivial⟩
  · rintro k2 a w3 hlr2 ⟨M2, hF2, hl3, hC3⟩
    subst hlr2
    refine ew_at (E := [(1, (.int .i64 a_n)), (7, v0p), (8, (.int .i64 (a_list.length : Int))), (9, (.int .i64 k2))]) hF2 ?_
    refine ew_then ?_
    refine cw_seq ?_
    refine cw_region ?_
    refine lw_op rfl rfl rfl (ow_assign rfl rfl ?_)
    refine lw_nil ?_
    refine ew_then ?_
    refine cw_ret ?_
    obtain rfl := Option.some.inj h
    exact ew_ret (res1 rfl (.tmp rfl)) ⟨_, rfl, ((vbool _)), hC3.bx⟩

theorem w_laws_alive {w : World} {M : Nat → Prop} (hG : ARep (RArr 4 RShape) w M shapes ⟨0, 0, none⟩) (hO : ∀ b, M b → b < w.heap.size)  {r : Bool} (h : F.laws_alive = some r) :
    Calls Tryd.prog 19 [].toArray w fun e w' => ∃ v, e = .returned v ∧ VRep RBool w' M r v ∧ BX No w w' := by
  have hC : Cx No w M w M := Cx.start hO (fun _ e => e.elim)
  refine walk (N := 4) Tryd.func19 rfl Tryd.ntmps19 rfl ?_
  refine cw_seq ?_
  refine cw_region ?_
  refine lw_op rfl rfl rfl (ow_assign rfl rfl ?_)
  refine lw_nil ?_
  refine ew_then ?_
  refine cw_seq ?_
  refine cw_region ?_
  refine lw_op rfl rfl rfl (ow_build (v := .agg #[(.int .i64 2), (.int .i64 4)]) rfl rfl (by kernel_rfl) ?_)
  have hw1 : VRep RSpan w M ({ Lo := 2, Hi := 4 } : Span) (.agg #[(.int .i64 2), (.int .i64 4)]) := shut_Span
  refine lw_op rfl rfl rfl (ow_buildSlice (R := RSpan) (xs := [({ Lo := 2, Hi := 4 } : Span)]) (cs := #[(.int .i64 2), (.int .i64 4)]) (e := 76) rfl rfl (by kernel_rfl) rfl rfl ⟨_, _, rfl, hw1.cells, rfl⟩ hC fun p1 w1 hw2 hb1 hl1 hC1 => ?_)
  replace h := bind_some h
  obtain ⟨x1, hx1, h⟩ := h
  refine lw_op rfl rfl rfl (ow_call rfl rfl Tryd.call40 (w_impl_SpansHave (hG.mono hl1) hC1.old hw2 hx1) fun v1 w2 hv1 => ?_)
  obtain ⟨hv1, hb2⟩ := hv1
  have hl2 := Le.no M hb2
  have hC2 := hC1.no hb2
  obtain rfl := vbool_eq hv1
  refine lw_op rfl rfl rfl (ow_assign rfl rfl ?_)
  refine lw_nil ?_
  refine ew_then ?_
  refine cw_ret ?_
  obtain rfl := Option.some.inj h
  exact ew_ret (res1 rfl (.tmp rfl)) ⟨_, rfl, ((vbool _)), hC2.bx⟩

theorem w_laws_FnTestsOrder {w : World} {M : Nat → Prop} (hG : ARep (RArr 4 RShape) w M shapes ⟨0, 0, none⟩) (hO : ∀ b, M b → b < w.heap.size) {v0p : Value} {a_code : List Int} (h0 : VRep (RSlice RU8) w M a_code v0p) {r : Bool} (h : F.laws_FnTestsOrder a_code = some r) :
    Calls Tryd.prog 3 [v0p].toArray w fun e w' => ∃ v, e = .returned v ∧ VRep RBool w' M r v ∧ BX No w w' := by
  obtain ⟨i31, hi31, hz31, hs31, hy31⟩ := info31
  have hC : Cx No w M w M := Cx.start hO (fun _ e => e.elim)
  refine walk (N := 41) Tryd.func3 rfl Tryd.ntmps3 rfl ?_
  refine cw_seq ?_
  refine cw_region ?_
  refine lw_op rfl rfl rfl (ow_assign rfl rfl ?_)
  refine lw_nil ?_
  refine ew_then ?_
  refine cw_seq ?_
  refine cw_seq ?_
  refine cw_region ?_
  refine lw_op rfl rfl rfl (ow_move rfl rfl ?_)
  refine lw_op rfl rfl rfl (ow_len rfl rfl h0 Tryd.underlying22 rfl ?_)
  refine lw_op rfl rfl rfl (ow_gtr rfl rfl rfl fun bb1 hbb1 => ?_)
  refine lw_nil ?_
  refine ew_then ?_
  replace h := cond_some h
  rcases h with ⟨hc1, h⟩ | ⟨hc1, h⟩
  · obtain rfl := hbb1.trans hc1
    refine cw_true rfl ?_
    refine cw_seq ?_
    refine cw_region ?_
    refine lw_op rfl rfl rfl (ow_assign rfl rfl ?_)
    refine lw_nil ?_
    refine ew_then ?_
    refine cw_ret ?_
    refine ew_thenR ?_
    obtain rfl := Option.some.inj h
    exact ew_ret (res1 rfl (.tmp rfl)) ⟨_, rfl, ((vbool _)), hC.bx⟩
  · obtain rfl := hbb1.trans hc1
    refine cw_false rfl ?_
    refine cw_skip ?_
    refine ew_then ?_
    refine cw_seq ?_
    refine cw_region ?_
    refine lw_op rfl rfl rfl (ow_move rfl rfl ?_)
    replace h := bind_some h
    obtain ⟨x1, hx1, h⟩ := h
    refine lw_op rfl rfl rfl (ow_call rfl rfl Tryd.call15 (w_spec_DrawTestsBox hG hC.old h0 hx1) fun v1 w1 hv1 => ?_)
    obtain ⟨hv1, hb1⟩ := hv1
    have hl1 := Le.no M hb1
    have hC1 := hC.no hb1
    refine lw_op rfl rfl rfl (ow_assign rfl rfl ?_)
    refine lw_nil ?_
    refine ew_then ?_
    refine cw_seq ?_
    refine cw_region ?_
    refine lw_op rfl rfl rfl (ow_move rfl rfl ?_)
    replace h := bind_some h
    obtain ⟨x2, hx2, h⟩ := h
    refine lw_op rfl rfl rfl (ow_call rfl rfl Tryd.call16 (w_impl_TestsBox (hG.mono hl1) hC1.old hv1 hx2) fun v2 w2 hv2 => ?_)
    obtain ⟨hv2, hb2⟩ := hv2
    have hl2 := Le.no M hb2
    have hC2 := hC1.no hb2
    refine lw_allocStore (R := RBox) rfl rfl rfl rfl rfl rfl rfl Tryd.zeroValue27 Tryd.sizeOf27 rfl rfl rfl (by simp) hv2 hC2 fun p1 w3 hp1 hb3 hl3 hC3 => ?_
    refine lw_nil ?_
    refine ew_then ?_
    refine cw_seq ?_
    refine cw_seq ?_
    replace h := bind_some h
    obtain ⟨x3, hx3, h⟩ := h
    refine cw_sub (E' := [(2, (.bool false)), (3, v1), (4, (.pointer (some p1)))]) ⟨rfl, rfl, rfl, trivial⟩ ?_
    refine cw_drawQ 3 [PV RBox M x2, PV (RSlice RTest) M x1, PV RBox M x3] (by kernel_rfl) rfl (by kernel_rfl) ⟨PV.mono _ _ _, PV.mono _ _ _, PV.mono _ _ _, trivial⟩ ⟨?_, ?_, ?_, trivial⟩ ?_
    · intro w5 D hS1 hd1
      have hl5 := Le.no M hS1
      have hC5 := hC3.no hS1
      refine dg_sub (E' := [(4, (.pointer (some p1)))]) ⟨rfl, trivial⟩ ?_
      refine dg_plain rfl (ow_load (R := RBox) rfl rfl (ARep.mono hl5 hp1) (Tryd.sizeOf27 _) (Tryd.isAgg27 _) fun v5 hv5 => ?_)
      exact ⟨BX.refl _ _, hv5⟩
    · intro w6 D hS2 hd2
      have hl6 := Le.no M hS2
      have hC6 := hC3.no hS2
      refine dg_sub (E' := [(3, v1)]) ⟨rfl, trivial⟩ ?_
      refine dg_plain rfl (ow_move rfl rfl ?_)
      exact ⟨BX.refl _ _, (VRep.mono ((hl2.trans hl3).trans hl6) hv1)⟩
    · intro w7 D hS3 hd3
      have hl7 := Le.no M hS3
      have hC7 := hC3.no hS3
      have hd3 : PV (RSlice RTest) M x1 (D 1) w7 ∧ True := hd3
      obtain ⟨d1, -⟩ := hd3
      obtain ⟨v6, hq1⟩ : ∃ v, (D 1) = v := ⟨_, rfl⟩
      rw [hq1] at d1
      refine dg_sub (E' := [(15, v6)]) ⟨(congrArg some hq1), trivial⟩ ?_
      refine dg_plain rfl (ow_call rfl rfl Tryd.call18 (w_spec_TestsBox (hG.mono (((hl1.trans hl2).trans hl3).trans hl7)) hC7.old d1 hx3) fun v7 w8 hv7 => ?_)
      obtain ⟨hv7, hb5⟩ := hv7
      have hl8 := Le.no M hb5
      have hC8 := hC7.no hb5
      exact ⟨hb5, hv7⟩
    · intro w9 D hS4 hd4
      have hl9 := Le.no M hS4
      have hC9 := hC3.no hS4
      have hd4 : PV RBox M x2 (D 0) w9 ∧ PV (RSlice RTest) M x1 (D 1) w9 ∧ PV RBox M x3 (D 2) w9 ∧ True := hd4
      obtain ⟨d2, -, d4, -⟩ := hd4
      obtain ⟨v8, hq2⟩ : ∃ v, (D 0) = v := ⟨_, rfl⟩
      rw [hq2] at d2
      obtain ⟨v9, hq3⟩ : ∃ v, (D 2) = v := ⟨_, rfl⟩
      rw [hq3] at d4
      refine lw_sub (E' := [(14, v8), (16, v9), (2, (.bool false)), (3, v1), (4, (.pointer (some p1)))]) ⟨(congrArg some hq2), (congrArg some hq3), rfl, rfl, rfl, trivial⟩ ?_
      replace h := bind_some h
      obtain ⟨x4, hx4, h⟩ := h
      refine lw_op rfl rfl rfl (ow_call rfl rfl Tryd.call17 (w_laws_sameBox (hG.mono (((hl1.trans hl2).trans hl3).trans hl9)) hC9.old d2 d4 hx4) fun v10 w10 hv10 => ?_)
      obtain ⟨hv10, hb6⟩ := hv10
      have hl10 := Le.no M hb6
      have hC10 := hC9.no hb6
      obtain rfl := vbool_eq hv10
      refine lw_op rfl rfl rfl (ow_not rfl rfl ?_)
      refine lw_nil ?_
      refine ew_then ?_
      replace h := cond_some h
      rcases h with ⟨hc2, h⟩ | ⟨hc2, h⟩
      · subst hc2
        refine cw_false rfl ?_
        refine cw_skip ?_
        refine ew_then ?_
        refine cw_seq ?_
        refine cw_region ?_
        refine lw_op rfl rfl rfl (ow_buildSlice0 (R := RTest) (e := 31) rfl (by kernel_rfl) hC10 fun p2 w11 M1 hr1 hb7 hl11 hC11 hM1 hat1 => ?_)
        refine lw_op rfl rfl rfl (ow_assign rfl rfl ?_)
        refine lw_nil ?_
        refine ew_then ?_
        refine cw_seq ?_
        refine cw_seq ?_
        refine cw_region ?_
        refine lw_op rfl rfl rfl (ow_move rfl rfl ?_)
        refine lw_op rfl rfl rfl (ow_len rfl rfl (VRep.mono ((((hl2.trans hl3).trans hl9).trans hl10).trans hl11) hv1) Tryd.underlying23 rfl ?_)
        refine lw_op rfl rfl rfl (ow_sub rfl rfl rfl ?_)
        refine lw_op rfl rfl rfl (ow_assign rfl rfl ?_)
        refine lw_nil ?_
        refine ew_then ?_
        replace h := bind_some h
        obtain ⟨lr1, hlr1, h⟩ := h
        refine cw_for hlr1 (fun s a w' => ∃ (M' : Nat → Prop) (v0c : Value), Fits 41 [(3, v1), (4, (.pointer (some p1))), (5, v0c), (6, (.int .i64 s.2))] a ∧ Le w11 M1 w' M' ∧ Cx No w M w' M' ∧ OwnRow RTest w.heap.size 31 w' M' s.1 v0c) ?_ ?_ ?_
        · intro a ha
          exact ⟨M1, (.slice (some p2) 0 0), ha.sub ⟨rfl, rfl, rfl, rfl, trivial⟩, Le.refl _ _, hC11, hr1⟩
        · rintro ⟨y1, k1⟩ a w12 sr1 ⟨M2, v11, hF1, hl12, hC12, hw1⟩ hb8 hR1
          refine cw_at (E := [(3, v1), (4, (.pointer (some p1))), (5, v11), (6, (.int .i64 k1))]) hF1 ?_
          refine cw_seq ?_
          refine cw_seq ?_
          refine cw_region ?_
          refine lw_op rfl rfl rfl (ow_move rfl rfl ?_)
          refine lw_op rfl rfl rfl (ow_geq rfl rfl rfl fun bb2 hbb2 => ?_)
          refine lw_nil ?_
          refine ew_then ?_
          replace hb8 := cond_some hb8
          rcases hb8 with ⟨hc3, hb8⟩ | ⟨hc3, hb8⟩
          · obtain rfl := hbb2.trans hc3
            refine cw_true rfl ?_
            refine cw_skip ?_
            refine ew_then ?_
            refine cw_seq ?_
            refine cw_block ?_
            refine cw_region ?_
            refine lw_op rfl rfl rfl (ow_move rfl rfl ?_)
            refine lw_op rfl rfl rfl (ow_move rfl rfl ?_)
            refine lw_op rfl rfl rfl (ow_move rfl rfl ?_)
            replace hb8 := bind_some hb8
            obtain ⟨x5, hx5, hb8⟩ := hb8
            refine lw_op rfl rfl rfl (ow_indexSlice (R := RTest) rfl rfl rfl (VRep.mono (((((hl2.trans hl3).trans hl9).trans hl10).trans hl11).trans hl12) hv1) Tryd.underlying23 (Tryd.sizeOf31 _) hx5 fun p3 hp3 => ?_)
            refine lw_op rfl rfl rfl (ow_load (R := RTest) rfl rfl hp3 (Tryd.sizeOf31 _) (Tryd.isAgg31 _) fun v13 hv13 => ?_)
            obtain rfl := open_Test hv13
            refine lw_op rfl rfl rfl (ow_buildSlice (R := RTest) (xs := [x5]) (cs := #[(.int .i64 x5.Field), (.int .i64 x5.Lo), (.int .i64 x5.Hi), (.bool x5.Not)]) (e := 31) rfl rfl (by kernel_rfl) rfl rfl ⟨_, _, rfl, hv13.cells, rfl⟩ hC12 fun p4 w13 hw2 hb9 hl13 hC13 => ?_)
            have hr2 := hw1.no hb9
            replace hb8 := bind_some hb8
            obtain ⟨z1, hz1, hb8⟩ := hb8
            refine lw_op rfl rfl rfl (ow_append (R := RTest) rfl rfl rfl rfl Tryd.underlying23 hi31 hz31 hs31 hy31 rfl rfl rfl rfl hr2 hw2 hz1 hC13 fun v14 w14 M3 hr3 hb10 hl14 hC14 hM2 hat2 => ?_)
            refine lw_op rfl rfl rfl (ow_assign rfl rfl ?_)
            refine lw_nil ?_
            refine ew_blockN ?_
            refine ew_then ?_
            refine cw_region ?_
            refine lw_op rfl rfl rfl (ow_move rfl rfl ?_)
            refine lw_op rfl rfl rfl (ow_sub rfl rfl rfl ?_)
            refine lw_op rfl rfl rfl (ow_assign rfl rfl ?_)
            refine lw_nil ?_
            refine ew_nxt (z1, (W (k1 - 1))) hb8 fun a ha => ⟨M3, v14, ?_, ((hl12.trans hl13).trans hl14), hC14, hr3⟩
            exact ha.sub ⟨rfl, rfl, rfl, rfl, trivial⟩
          · obtain rfl := hbb2.trans hc3
            refine cw_false rfl ?_
            refine cw_exit ?_
            refine ew_thenX ?_
            refine ew_thenX ?_
            refine ew_blockX ?_
            refine ew_brk (y1, k1) hb8 fun a ha => ⟨M2, v11, ?_, hl12, hC12, hw1⟩
            exact ha.sub ⟨rfl, rfl, rfl, rfl, trivial⟩
        · rintro ⟨y2, k2⟩ a w15 hlr2 ⟨M4, v15, hF2, hl15, hC15, hw3⟩
          subst hlr2
          refine ew_at (E := [(3, v1), (4, (.pointer (some p1))), (5, v15), (6, (.int .i64 k2))]) hF2 ?_
          refine ew_then ?_
          refine cw_seq ?_
          replace h := bind_some h
          obtain ⟨x6, hx6, h⟩ := h
          have hw5 := hw3.freezeDel
          have hC18 := hw3.cxDel hC15 (fun _ e => e.elim) hO
          have hl18 := Le.del w15 M4 v15
          refine cw_sub (E' := [(4, (.pointer (some p1))), (5, v15)]) ⟨rfl, rfl, trivial⟩ ?_
          refine cw_drawQ 3 [PV (RSlice RTest) (Del v15 M4) y2, PV RBox (Del v15 M4) x6, PV RBox (Del v15 M4) x2] (by kernel_rfl) rfl (by kernel_rfl) ⟨PV.mono _ _ _, PV.mono _ _ _, PV.mono _ _ _, trivial⟩ ⟨?_, ?_, ?_, trivial⟩ ?_
          · intro w17 D hS5 hd5
            have hl19 := Le.no (Del v15 M4) hS5
            have hC19 := hC18.no hS5
            refine dg_sub (E' := [(5, v15)]) ⟨rfl, trivial⟩ ?_
            refine dg_plain rfl (ow_move rfl rfl ?_)
            exact ⟨BX.refl _ _, (VRep.mono hl19 hw5)⟩
          · intro w18 D hS6 hd6
            have hl20 := Le.no (Del v15 M4) hS6
            have hC20 := hC18.no hS6
            have hd6 : PV (RSlice RTest) (Del v15 M4) y2 (D 0) w18 ∧ True := hd6
            obtain ⟨d5, -⟩ := hd6
            obtain ⟨v19, hq4⟩ : ∃ v, (D 0) = v := ⟨_, rfl⟩
            rw [hq4] at d5
            refine dg_sub (E' := [(34, v19)]) ⟨(congrArg some hq4), trivial⟩ ?_
            refine dg_plain rfl (ow_call rfl rfl Tryd.call16 (w_impl_TestsBox (hG.mono ((((((((hl1.trans hl2).trans hl3).trans hl9).trans hl10).trans hl11).trans hl15).trans hl18).trans hl20)) hC20.old d5 hx6) fun v20 w19 hv20 => ?_)
            obtain ⟨hv20, hb12⟩ := hv20
            have hl21 := Le.no (Del v15 M4) hb12
            have hC21 := hC20.no hb12
            exact ⟨hb12, hv20⟩
          · intro w20 D hS7 hd7
            have hl22 := Le.no (Del v15 M4) hS7
            have hC22 := hC18.no hS7
            refine dg_sub (E' := [(4, (.pointer (some p1)))]) ⟨rfl, trivial⟩ ?_
            refine dg_plain rfl (ow_load (R := RBox) rfl rfl (ARep.mono (((((hl9.trans hl10).trans hl11).trans hl15).trans hl18).trans hl22) hp1) (Tryd.sizeOf27 _) (Tryd.isAgg27 _) fun v21 hv21 => ?_)
            exact ⟨BX.refl _ _, hv21⟩
          · intro w21 D hS8 hd8
            have hl23 := Le.no (Del v15 M4) hS8
            have hC23 := hC18.no hS8
            have hd8 : PV (RSlice RTest) (Del v15 M4) y2 (D 0) w21 ∧ PV RBox (Del v15 M4) x6 (D 1) w21 ∧ PV RBox (Del v15 M4) x2 (D 2) w21 ∧ True := hd8
            obtain ⟨-, d7, d8, -⟩ := hd8
            obtain ⟨v22, hq5⟩ : ∃ v, (D 1) = v := ⟨_, rfl⟩
            rw [hq5] at d7
            obtain ⟨v23, hq6⟩ : ∃ v, (D 2) = v := ⟨_, rfl⟩
            rw [hq6] at d8
            refine lw_sub (E' := [(35, v22), (36, v23), (4, (.pointer (some p1))), (5, v15)]) ⟨(congrArg some hq5), (congrArg some hq6), rfl, rfl, trivial⟩ ?_
            replace h := bind_some h
            obtain ⟨x7, hx7, h⟩ := h
            refine lw_op rfl rfl rfl (ow_call rfl rfl Tryd.call17 (w_laws_sameBox (hG.mono ((((((((hl1.trans hl2).trans hl3).trans hl9).trans hl10).trans hl11).trans hl15).trans hl18).trans hl23)) hC23.old d7 d8 hx7) fun v24 w22 hv24 => ?_)
            obtain ⟨hv24, hb13⟩ := hv24
            have hl24 := Le.no (Del v15 M4) hb13
            have hC24 := hC23.no hb13
            obtain rfl := vbool_eq hv24
            refine lw_op rfl rfl rfl (ow_move rfl rfl ?_)
            replace h := cond_some h
            rcases h with ⟨hc4, h⟩ | ⟨hc4, h⟩
            · subst hc4
              replace h := bind_some h
              obtain ⟨x8, hx8, h⟩ := h
              refine lw_on rfl rfl rfl rfl rfl rfl (ow_call rfl rfl Tryd.call19 (w_laws_alive (hG.mono (((((((((hl1.trans hl2).trans hl3).trans hl9).trans hl10).trans hl11).trans hl15).trans hl18).trans hl23).trans hl24)) hC24.old hx8) fun v25 w23 hv25 => ?_)
              obtain ⟨hv25, hb14⟩ := hv25
              have hl25 := Le.no (Del v15 M4) hb14
              have hC25 := hC24.no hb14
              obtain rfl := vbool_eq hv25
              refine lw_op rfl rfl rfl (ow_pickT rfl rfl rfl ?_)
              refine lw_op rfl rfl rfl (ow_assign rfl rfl ?_)
              refine lw_nil ?_
              refine ew_then ?_
              refine cw_ret ?_
              obtain rfl := Option.some.inj h
              exact ew_ret (res1 rfl (.tmp rfl)) ⟨_, rfl, ((vbool _)), hC25.bx⟩
            · subst hc4
              refine lw_off rfl rfl rfl rfl rfl rfl ?_
              refine lw_op rfl rfl rfl (ow_pickF rfl rfl rfl ?_)
              refine lw_op rfl rfl rfl (ow_assign rfl rfl ?_)
              refine lw_nil ?_
              refine ew_then ?_
              refine cw_ret ?_
              obtain rfl := Option.some.inj h
              exact ew_ret (res1 rfl (.tmp rfl)) ⟨_, rfl, ((vbool _)), hC24.bx⟩
      · subst hc2
        refine cw_true rfl ?_
        refine cw_seq ?_
        refine cw_region ?_
        refine lw_op rfl rfl rfl (ow_assign rfl rfl ?_)
        refine lw_nil ?_
        refine ew_then ?_
        refine cw_ret ?_
        refine ew_thenR ?_
        obtain rfl := Option.some.inj h
        exact ew_ret (res1 rfl (.tmp rfl)) ⟨_, rfl, ((vbool _)), hC10.bx⟩


end Go.PF
