/- The walks; no condition. -/
import Derived.Test.YtnleamfkpjnfoaaDoorProg
import Derived.Test.YtnleamfkpjnfoaaDoorWk2
import Derived.Test.YtnleamfkpjnfoaaDoorPFNew
set_option maxRecDepth 100000
set_option maxHeartbeats 4000000
namespace Go.PF
open Go Go.RowKit Go.Proofs

theorem w_spec_BoxAll {w : World} {M : Nat → Prop} (hG : ARep (RArr 4 RShape) w M shapes ⟨0, 0, none⟩) (hO : ∀ b, M b → b < w.heap.size)  {r : Box} (h : F.spec_BoxAll = some r) :
  Calls Tryd.prog 59 [].toArray w fun e w' => ∃ v, e = .returned v ∧ VRep RBox w' M r v ∧ BX No w w' := by
 obtain ⟨i58, hi58, hz58, hs58, hy58⟩ := info58
 have hC : Cx No w M w M := Cx.start hO (fun _ e => e.elim)
 refine walk (N := 18) Tryd.func59 rfl Tryd.ntmps59 rfl ?_
 refine cw_seq (cw_region (lw_op rfl rfl rfl (ow_alloc rfl (Tryd.zeroValue27 _) hC fun g1 w1 hg1 hg2 ho1 hb1 hl1 hC1 => ?_)))
 have hm1 : (Add g1 M) g1 := .inl rfl
 refine lw_nil (ew_then (cw_seq (cw_region (lw_op rfl rfl rfl (ow_build (v := .agg #[(.slice none 0 0)]) rfl rfl (by kernel_rfl) ?_)))))
 have hw1 : VRep RBox w1 (Add g1 M) ({ Sides := ([] : List (List Span)) } : Box) (.agg #[(.slice none 0 0)]) := shut_Box (vslice_nil (R := (RSlice RSpan)) (w := w1) (M := (Add g1 M)))
 refine lw_op rfl rfl rfl (ow_alloc rfl (Tryd.zeroValue27 _) hC1 fun g2 w2 hg3 hg4 ho2 hb2 hl2 hC2 => ?_)
 have hn1 := Nat.ne_of_lt (Nat.lt_of_lt_of_le ho1.lt hg3)
 have ho3 := ho1.no hb2
 have hm2 : (Add g2 (Add g1 M)) g1 := .inr hm1
 have hm3 : (Add g2 (Add g1 M)) g2 := .inl rfl
 refine lw_op0 rfl rfl (ow_store (X := No) (us := [(.slice none 0 0)]) (cs' := #[(.slice none 0 0)]) rfl rfl rfl rfl ho2 (Tryd.sizeOf27 _) rfl rfl rfl rfl hm3 (.inl hg4) rfl hC2 fun w3 ho4 hb3 hl3 hC3 => ?_)
 have ho5 := ho3.go hb3 (fun e => hn1 e)
 refine lw_nil (ew_then (cw_seq (cw_seq (cw_region (lw_op rfl rfl rfl (ow_assign rfl rfl ?_))))))
 refine lw_nil (ew_then ?_)
 have hr1 : OwnRow (RSlice RSpan) w.heap.size 58 w3 (Add g2 (Add g1 M)) ([] : List (List Span)) (.slice none 0 0) := ownrow_nil
 replace h := bind_some h
 obtain ⟨lr1, hlr1, h⟩ := h
 refine cw_for hlr1 (fun s a w' => ∃ (M' : Nat → Prop) (v1c : Value), Fits 18 [(0, (.pointer (some ⟨g1, 0, none⟩))), (1, (.pointer (some ⟨g2, 0, none⟩))), (2, (.int .i64 s.1))] a ∧ Le w3 (Add g2 (Add g1 M)) w' M' ∧ Cx No w M w' M' ∧ OwnRow (RSlice RSpan) w.heap.size 58 w' M' s.2 v1c ∧ Own w' g1 27 #[(.slice none 0 0)] ∧ M' g1 ∧ Own w' g2 27 #[v1c] ∧ M' g2) ?_ ?_ ?_
 ·
  intro a ha
  exact ⟨(Add g2 (Add g1 M)), (.slice none 0 0), ha.sub ⟨rfl, rfl, rfl, trivial⟩, Le.refl _ _, hC3, hr1, ho5, hm2, ho4, hm3⟩
 ·
  rintro ⟨k1, y1⟩ a w4 sr1 ⟨M1, v2, hF1, hl4, hC4, hw2, ho6, hm4, ho7, hm5⟩ hb4 hR1
  refine cw_at (E := [(0, (.pointer (some ⟨g1, 0, none⟩))), (1, (.pointer (some ⟨g2, 0, none⟩))), (2, (.int .i64 k1))]) hF1 ?_
  refine cw_seq (cw_seq (cw_region (lw_op rfl rfl rfl (ow_move rfl rfl ?_))))
  refine lw_op rfl rfl rfl (ow_lss rfl rfl rfl fun bb1 hbb1 => ?_)
  refine lw_nil (ew_then ?_)
  replace hb4 := cond_some hb4
  rcases hb4 with ⟨hc1, hb4⟩ | ⟨hc1, hb4⟩
  ·
   obtain rfl := hbb1.trans hc1
   refine cw_true rfl ?_
   refine cw_skip (ew_then (cw_seq (cw_block ?_)))
   replace hb4 := bind_some hb4
   obtain ⟨x1, hx1, hb4⟩ := hb4
   refine cw_sub (E' := [(0, (.pointer (some ⟨g1, 0, none⟩))), (1, (.pointer (some ⟨g2, 0, none⟩))), (2, (.int .i64 k1))]) ⟨rfl, rfl, rfl, trivial⟩ ?_
   refine cw_drawQ 7 [PEq (.pointer (some ⟨g2, 0, none⟩)), PEq v2, PEq (.int .i64 k1), PEq (.int .i64 x1), PV RSpan M1 ({ Lo := 0, Hi := x1 } : Span), PV (RSlice RSpan) M1 [({ Lo := 0, Hi := x1 } : Span)], PV (RSlice (RSlice RSpan)) M1 [[({ Lo := 0, Hi := x1 } : Span)]]] (by kernel_rfl) rfl (by kernel_rfl) ⟨PEq.mono _, PEq.mono _, PEq.mono _, PEq.mono _, PV.mono _ _ _, PV.mono _ _ _, PV.mono _ _ _, trivial⟩ ⟨?_, ?_, ?_, ?_, ?_, ?_, ?_, trivial⟩ ?_
   ·
    intro w8 D hS1 hd1
    have hl8 := Le.no M1 hS1
    have hC8 := hC4.no hS1
    have ho14 := ho6.no hS1
    have ho15 := ho7.no hS1
    have hr5 := hw2.no hS1
    refine dg_sub (E' := [(1, (.pointer (some ⟨g2, 0, none⟩)))]) ⟨rfl, trivial⟩ ?_
    refine dg_plain rfl (ow_fieldAddr rfl rfl Tryd.underlying27 rfl (Tryd.sizeOf25 _) ?_)
    exact ⟨BX.refl _ _, rfl⟩
   ·
    intro w9 D hS2 hd2
    have hl9 := Le.no M1 hS2
    have hC9 := hC4.no hS2
    have ho16 := ho6.no hS2
    have ho17 := ho7.no hS2
    have hr6 := hw2.no hS2
    have hd2 : PEq (.pointer (some ⟨g2, 0, none⟩)) (D 0) w9 ∧ True := hd2
    obtain ⟨d1, -⟩ := hd2
    refine dg_sub (E' := [(8, (.pointer (some ⟨g2, 0, none⟩)))]) ⟨(congrArg some d1), trivial⟩ ?_
    refine dg_plain rfl (ow_loadOwn1 rfl rfl rfl ho17 (Tryd.isAgg25 _) rfl ?_)
    exact ⟨BX.refl _ _, rfl⟩
   ·
    intro w10 D hS3 hd3
    have hl10 := Le.no M1 hS3
    have hC10 := hC4.no hS3
    have ho18 := ho6.no hS3
    have ho19 := ho7.no hS3
    have hr7 := hw2.no hS3
    refine dg_sub (E' := [(2, (.int .i64 k1))]) ⟨rfl, trivial⟩ ?_
    refine dg_plain rfl (ow_move rfl rfl ?_)
    exact ⟨BX.refl _ _, rfl⟩
   ·
    intro w11 D hS4 hd4
    have hl11 := Le.no M1 hS4
    have hC11 := hC4.no hS4
    have ho20 := ho6.no hS4
    have ho21 := ho7.no hS4
    have hr8 := hw2.no hS4
    have hd4 : PEq (.int .i64 k1) (D 2) w11 ∧ True := hd4
    obtain ⟨d2, -⟩ := hd4
    refine dg_sub (E' := [(10, (.int .i64 k1))]) ⟨(congrArg some d2), trivial⟩ ?_
    refine dg_plain rfl (ow_call rfl rfl Tryd.call81 (w_spec_FieldTop (hG.mono ((((hl1.trans hl2).trans hl3).trans hl4).trans hl11)) hC11.old hx1) fun v4 w12 hv4 => ?_)
    obtain ⟨hv4, hb8⟩ := hv4
    have hl12 := Le.no M1 hb8
    have hC12 := hC11.no hb8
    have ho22 := ho20.no hb8
    have ho23 := ho21.no hb8
    have hr9 := hr8.no hb8
    obtain rfl := vint_eq hv4
    exact ⟨hb8, rfl⟩
   ·
    intro w13 D hS5 hd5
    have hl13 := Le.no M1 hS5
    have hC13 := hC4.no hS5
    have ho24 := ho6.no hS5
    have ho25 := ho7.no hS5
    have hr10 := hw2.no hS5
    have hd5 : PEq (.int .i64 x1) (D 3) w13 ∧ True := hd5
    obtain ⟨d3, -⟩ := hd5
    refine dg_sub (E' := [(11, (.int .i64 x1))]) ⟨(congrArg some d3), trivial⟩ ?_
    refine dg_plain rfl (ow_build (v := .agg #[(.int .i64 0), (.int .i64 x1)]) rfl rfl (by kernel_rfl) ?_)
    have hw6 : VRep RSpan w13 M1 ({ Lo := 0, Hi := x1 } : Span) (.agg #[(.int .i64 0), (.int .i64 x1)]) := shut_Span
    exact ⟨BX.refl _ _, hw6⟩
   ·
    intro w14 D hS6 hd6
    have hl14 := Le.no M1 hS6
    have hC14 := hC4.no hS6
    have ho26 := ho6.no hS6
    have ho27 := ho7.no hS6
    have hr11 := hw2.no hS6
    have hd6 : PV RSpan M1 ({ Lo := 0, Hi := x1 } : Span) (D 4) w14 ∧ True := hd6
    obtain ⟨d4, -⟩ := hd6
    obtain ⟨v5, hq1⟩ : ∃ v, (D 4) = v := ⟨_, rfl⟩
    rw [hq1] at d4
    refine dg_sub (E' := [(12, v5)]) ⟨(congrArg some hq1), trivial⟩ ?_
    obtain rfl := open_Span d4
    refine dg_plain rfl (ow_buildSlice (R := RSpan) (xs := [({ Lo := 0, Hi := x1 } : Span)]) (cs := #[(.int .i64 ({ Lo := 0, Hi := x1 } : Span).Lo), (.int .i64 ({ Lo := 0, Hi := x1 } : Span).Hi)]) (e := 76) rfl rfl (by kernel_rfl) rfl rfl ⟨_, _, rfl, d4.cells, rfl⟩ hC14 fun p3 w15 hw7 hb9 hl15 hC15 => ?_)
    have ho28 := ho26.no hb9
    have ho29 := ho27.no hb9
    have hr12 := hr11.no hb9
    exact ⟨hb9, hw7⟩
   ·
    intro w16 D hS7 hd7
    have hl16 := Le.no M1 hS7
    have hC16 := hC4.no hS7
    have ho30 := ho6.no hS7
    have ho31 := ho7.no hS7
    have hr13 := hw2.no hS7
    have hd7 : PV (RSlice RSpan) M1 [({ Lo := 0, Hi := x1 } : Span)] (D 5) w16 ∧ True := hd7
    obtain ⟨d5, -⟩ := hd7
    obtain ⟨v6, hq2⟩ : ∃ v, (D 5) = v := ⟨_, rfl⟩
    rw [hq2] at d5
    refine dg_sub (E' := [(13, v6)]) ⟨(congrArg some hq2), trivial⟩ ?_
    obtain ⟨A1, c1, rfl, -⟩ := vslice_shape d5
    refine dg_plain rfl (ow_buildSlice (R := (RSlice RSpan)) (xs := [[({ Lo := 0, Hi := x1 } : Span)]]) (cs := #[(.slice A1 [({ Lo := 0, Hi := x1 } : Span)].length c1)]) (e := 58) rfl rfl (by kernel_rfl) rfl rfl ⟨_, _, rfl, d5.cells, rfl⟩ hC16 fun p4 w17 hw8 hb10 hl17 hC17 => ?_)
    have ho32 := ho30.no hb10
    have ho33 := ho31.no hb10
    have hr14 := hr13.no hb10
    exact ⟨hb10, hw8⟩
   ·
    intro w18 D hS8 hd8
    have hd8 : PEq (.pointer (some ⟨g2, 0, none⟩)) (D 0) w18 ∧ PEq v2 (D 1) w18 ∧ PEq (.int .i64 k1) (D 2) w18 ∧ PEq (.int .i64 x1) (D 3) w18 ∧ PV RSpan M1 ({ Lo := 0, Hi := x1 } : Span) (D 4) w18 ∧ PV (RSlice RSpan) M1 [({ Lo := 0, Hi := x1 } : Span)] (D 5) w18 ∧ PV (RSlice (RSlice RSpan)) M1 [[({ Lo := 0, Hi := x1 } : Span)]] (D 6) w18 ∧ True := hd8
    obtain ⟨-, d7, -, -, -, -, d12, -⟩ := hd8
    have hl18 := Le.no M1 hS8
    have hC18 := hC4.no hS8
    have ho34 := ho6.no hS8
    have ho35 := ho7.no hS8
    have hr15 := hw2.no hS8
    obtain ⟨v7, hq3⟩ : ∃ v, (D 6) = v := ⟨_, rfl⟩
    rw [hq3] at d12
    refine lw_sub (E' := [(9, v2), (14, v7), (0, (.pointer (some ⟨g1, 0, none⟩))), (1, (.pointer (some ⟨g2, 0, none⟩))), (2, (.int .i64 k1))]) ⟨(congrArg some d7), (congrArg some hq3), rfl, rfl, rfl, trivial⟩ ?_
    replace hb4 := bind_some hb4
    obtain ⟨z1, hz1, hb4⟩ := hb4
    refine lw_op rfl rfl rfl (ow_append (R := (RSlice RSpan)) rfl rfl rfl rfl Tryd.underlying25 hi58 hz58 hs58 hy58 rfl rfl rfl rfl hr15 d12 hz1 hC18 fun v8 w19 M2 hr16 hb11 hl19 hC19 hM1 hat1 => ?_)
    have ho36 := ho34.go hb11 (fun e => (orow_ne hr15 ho34 (by decide)) e)
    have hm6 := hM1 _ hm4
    have ho37 := ho35.go hb11 (fun e => (orow_ne hr15 ho35 (by decide)) e)
    have hm7 := hM1 _ hm5
    refine lw_op rfl rfl rfl (ow_fieldAddr rfl rfl Tryd.underlying27 rfl (Tryd.sizeOf25 _) ?_)
    obtain ⟨A2, c2, rfl⟩ := hr16.len
    refine lw_op0 rfl rfl (ow_store (X := No) (us := [(.slice A2 z1.length c2)]) (cs' := #[(.slice A2 z1.length c2)]) rfl rfl rfl rfl ho37 (Tryd.sizeOf25 _) rfl rfl rfl rfl hm7 (.inl hg4) rfl hC19 fun w20 ho38 hb12 hl20 hC20 => ?_)
    have ho39 := ho36.go hb12 (fun e => hn1 e)
    have hr17 := hr16.go hb12 (fun k hk e => (orow_ne hr16 ho37 (by decide)) (hk.trans (congrArg some e))) hl20 (fun _ h => h)
    refine lw_nil (ew_blockN ?_)
    refine ew_then (cw_region (lw_op rfl rfl rfl (ow_move rfl rfl ?_)))
    refine lw_op rfl rfl rfl (ow_add rfl rfl rfl ?_)
    refine lw_op rfl rfl rfl (ow_assign rfl rfl ?_)
    refine lw_nil (ew_nxt ((W (k1 + 1)), z1) hb4 fun a ha => ⟨M2, (.slice A2 z1.length c2), ?_, (((hl4.trans hl18).trans hl19).trans hl20), hC20, hr17, ho39, hm6, ho38, hm7⟩)
    exact ha.sub ⟨rfl, rfl, rfl, trivial⟩
  ·
   obtain rfl := hbb1.trans hc1
   refine cw_false rfl ?_
   refine cw_exit ?_
   refine ew_thenX ?_
   refine ew_thenX ?_
   refine ew_blockX ?_
   refine ew_brk (k1, y1) hb4 fun a ha => ⟨M1, v2, ?_, hl4, hC4, hw2, ho6, hm4, ho7, hm5⟩
   exact ha.sub ⟨rfl, rfl, rfl, trivial⟩
 ·
  rintro ⟨k2, y2⟩ a w21 hlr2 ⟨M3, v10, hF2, hl21, hC21, hw9, ho40, hm8, ho41, hm9⟩
  subst hlr2
  refine ew_at (E := [(0, (.pointer (some ⟨g1, 0, none⟩))), (1, (.pointer (some ⟨g2, 0, none⟩))), (2, (.int .i64 k2))]) hF2 ?_
  refine ew_then (cw_seq (cw_region (lw_op rfl rfl rfl (ow_loadOwnA rfl rfl rfl ho41 (Tryd.isAgg27 _) (Tryd.sizeOf27 _) rfl ?_))))
  have hw10 := hw9.freezeDel
  have hC22 := hw9.cxDel hC21 (fun _ e => e.elim) hO
  have hl22 := Le.del w21 M3 v10
  have hm10 : (Del v10 M3) g1 := ⟨hm8, fun e => (orow_ne hw9 ho40 (by decide)) e⟩
  have hm11 : (Del v10 M3) g2 := ⟨hm9, fun e => (orow_ne hw9 ho41 (by decide)) e⟩
  obtain ⟨A3, c3, rfl, -⟩ := vslice_shape hw10
  have hw11 : VRep RBox w21 (Del (.slice A3 y2.length c3) M3) ({ Sides := y2 } : Box) (.agg #[(.slice A3 y2.length c3)]) := shut_Box hw10
  refine lw_op0 rfl rfl (ow_store (X := No) (us := [(.slice A3 y2.length c3)]) (cs' := #[(.slice A3 y2.length c3)]) rfl rfl rfl rfl ho40 (Tryd.sizeOf27 _) rfl rfl rfl rfl hm10 (.inl hg2) rfl hC22 fun w22 ho42 hb13 hl23 hC23 => ?_)
  have ho43 := ho41.go hb13 (fun e => hn1 e.symm)
  refine lw_nil (ew_then (cw_ret ?_))
  have hw12 : VRep RBox w22 (Del (.slice A3 y2.length c3) M3) ({ Sides := y2 } : Box) (.agg #[(.slice A3 y2.length c3)]) := shut_Box (VRep.mono hl23 hw10)
  obtain rfl := Option.some.inj h
  exact ew_ret (res1 rfl (.cell rfl (own_loadVarA ho42 (Tryd.isAgg27 _) (Tryd.sizeOf27 _) rfl))) ⟨_, rfl, (hw12.mono hC23.back), hC23.bx⟩

theorem wo_spec_BoxAll {w : World} {M : Nat → Prop} (hG : ARep (RArr 4 RShape) w M shapes ⟨0, 0, none⟩) (hO : ∀ b, M b → b < w.heap.size)  {r : Box} (h : F.spec_BoxAll = some r) :
  Calls Tryd.prog 59 [].toArray w fun e w' => ∃ v, e = .returned v ∧ (∃ M' u, v = .agg #[u] ∧ OwnRow (RSlice RSpan) w.heap.size 58 w' M' r.Sides u ∧ Cx No w M w' M') ∧ BX No w w' := by
 obtain ⟨i58, hi58, hz58, hs58, hy58⟩ := info58
 have hC : Cx No w M w M := Cx.start hO (fun _ e => e.elim)
 refine walk (N := 18) Tryd.func59 rfl Tryd.ntmps59 rfl ?_
 refine cw_seq (cw_region (lw_op rfl rfl rfl (ow_alloc rfl (Tryd.zeroValue27 _) hC fun g1 w1 hg1 hg2 ho1 hb1 hl1 hC1 => ?_)))
 have hm1 : (Add g1 M) g1 := .inl rfl
 refine lw_nil (ew_then (cw_seq (cw_region (lw_op rfl rfl rfl (ow_build (v := .agg #[(.slice none 0 0)]) rfl rfl (by kernel_rfl) ?_)))))
 have hw1 : VRep RBox w1 (Add g1 M) ({ Sides := ([] : List (List Span)) } : Box) (.agg #[(.slice none 0 0)]) := shut_Box (vslice_nil (R := (RSlice RSpan)) (w := w1) (M := (Add g1 M)))
 refine lw_op rfl rfl rfl (ow_alloc rfl (Tryd.zeroValue27 _) hC1 fun g2 w2 hg3 hg4 ho2 hb2 hl2 hC2 => ?_)
 have hn1 := Nat.ne_of_lt (Nat.lt_of_lt_of_le ho1.lt hg3)
 have ho3 := ho1.no hb2
 have hm2 : (Add g2 (Add g1 M)) g1 := .inr hm1
 have hm3 : (Add g2 (Add g1 M)) g2 := .inl rfl
 refine lw_op0 rfl rfl (ow_store (X := No) (us := [(.slice none 0 0)]) (cs' := #[(.slice none 0 0)]) rfl rfl rfl rfl ho2 (Tryd.sizeOf27 _) rfl rfl rfl rfl hm3 (.inl hg4) rfl hC2 fun w3 ho4 hb3 hl3 hC3 => ?_)
 have ho5 := ho3.go hb3 (fun e => hn1 e)
 refine lw_nil (ew_then (cw_seq (cw_seq (cw_region (lw_op rfl rfl rfl (ow_assign rfl rfl ?_))))))
 refine lw_nil (ew_then ?_)
 have hr1 : OwnRow (RSlice RSpan) w.heap.size 58 w3 (Add g2 (Add g1 M)) ([] : List (List Span)) (.slice none 0 0) := ownrow_nil
 replace h := bind_some h
 obtain ⟨lr1, hlr1, h⟩ := h
 refine cw_for hlr1 (fun s a w' => ∃ (M' : Nat → Prop) (v1c : Value), Fits 18 [(0, (.pointer (some ⟨g1, 0, none⟩))), (1, (.pointer (some ⟨g2, 0, none⟩))), (2, (.int .i64 s.1))] a ∧ Le w3 (Add g2 (Add g1 M)) w' M' ∧ Cx No w M w' M' ∧ OwnRow (RSlice RSpan) w.heap.size 58 w' M' s.2 v1c ∧ Own w' g1 27 #[(.slice none 0 0)] ∧ M' g1 ∧ Own w' g2 27 #[v1c] ∧ M' g2) ?_ ?_ ?_
 ·
  intro a ha
  exact ⟨(Add g2 (Add g1 M)), (.slice none 0 0), ha.sub ⟨rfl, rfl, rfl, trivial⟩, Le.refl _ _, hC3, hr1, ho5, hm2, ho4, hm3⟩
 ·
  rintro ⟨k1, y1⟩ a w4 sr1 ⟨M1, v2, hF1, hl4, hC4, hw2, ho6, hm4, ho7, hm5⟩ hb4 hR1
  refine cw_at (E := [(0, (.pointer (some ⟨g1, 0, none⟩))), (1, (.pointer (some ⟨g2, 0, none⟩))), (2, (.int .i64 k1))]) hF1 ?_
  refine cw_seq (cw_seq (cw_region (lw_op rfl rfl rfl (ow_move rfl rfl ?_))))
  refine lw_op rfl rfl rfl (ow_lss rfl rfl rfl fun bb1 hbb1 => ?_)
  refine lw_nil (ew_then ?_)
  replace hb4 := cond_some hb4
  rcases hb4 with ⟨hc1, hb4⟩ | ⟨hc1, hb4⟩
  ·
   obtain rfl := hbb1.trans hc1
   refine cw_true rfl ?_
   refine cw_skip (ew_then (cw_seq (cw_block ?_)))
   replace hb4 := bind_some hb4
   obtain ⟨x1, hx1, hb4⟩ := hb4
   refine cw_sub (E' := [(0, (.pointer (some ⟨g1, 0, none⟩))), (1, (.pointer (some ⟨g2, 0, none⟩))), (2, (.int .i64 k1))]) ⟨rfl, rfl, rfl, trivial⟩ ?_
   refine cw_drawQ 7 [PEq (.pointer (some ⟨g2, 0, none⟩)), PEq v2, PEq (.int .i64 k1), PEq (.int .i64 x1), PV RSpan M1 ({ Lo := 0, Hi := x1 } : Span), PV (RSlice RSpan) M1 [({ Lo := 0, Hi := x1 } : Span)], PV (RSlice (RSlice RSpan)) M1 [[({ Lo := 0, Hi := x1 } : Span)]]] (by kernel_rfl) rfl (by kernel_rfl) ⟨PEq.mono _, PEq.mono _, PEq.mono _, PEq.mono _, PV.mono _ _ _, PV.mono _ _ _, PV.mono _ _ _, trivial⟩ ⟨?_, ?_, ?_, ?_, ?_, ?_, ?_, trivial⟩ ?_
   ·
    intro w8 D hS1 hd1
    have hl8 := Le.no M1 hS1
    have hC8 := hC4.no hS1
    have ho14 := ho6.no hS1
    have ho15 := ho7.no hS1
    have hr5 := hw2.no hS1
    refine dg_sub (E' := [(1, (.pointer (some ⟨g2, 0, none⟩)))]) ⟨rfl, trivial⟩ ?_
    refine dg_plain rfl (ow_fieldAddr rfl rfl Tryd.underlying27 rfl (Tryd.sizeOf25 _) ?_)
    exact ⟨BX.refl _ _, rfl⟩
   ·
    intro w9 D hS2 hd2
    have hl9 := Le.no M1 hS2
    have hC9 := hC4.no hS2
    have ho16 := ho6.no hS2
    have ho17 := ho7.no hS2
    have hr6 := hw2.no hS2
    have hd2 : PEq (.pointer (some ⟨g2, 0, none⟩)) (D 0) w9 ∧ True := hd2
    obtain ⟨d1, -⟩ := hd2
    refine dg_sub (E' := [(8, (.pointer (some ⟨g2, 0, none⟩)))]) ⟨(congrArg some d1), trivial⟩ ?_
    refine dg_plain rfl (ow_loadOwn1 rfl rfl rfl ho17 (Tryd.isAgg25 _) rfl ?_)
    exact ⟨BX.refl _ _, rfl⟩
   ·
    intro w10 D hS3 hd3
    have hl10 := Le.no M1 hS3
    have hC10 := hC4.no hS3
    have ho18 := ho6.no hS3
    have ho19 := ho7.no hS3
    have hr7 := hw2.no hS3
    refine dg_sub (E' := [(2, (.int .i64 k1))]) ⟨rfl, trivial⟩ ?_
    refine dg_plain rfl (ow_move rfl rfl ?_)
    exact ⟨BX.refl _ _, rfl⟩
   ·
    intro w11 D hS4 hd4
    have hl11 := Le.no M1 hS4
    have hC11 := hC4.no hS4
    have ho20 := ho6.no hS4
    have ho21 := ho7.no hS4
    have hr8 := hw2.no hS4
    have hd4 : PEq (.int .i64 k1) (D 2) w11 ∧ True := hd4
    obtain ⟨d2, -⟩ := hd4
    refine dg_sub (E' := [(10, (.int .i64 k1))]) ⟨(congrArg some d2), trivial⟩ ?_
    refine dg_plain rfl (ow_call rfl rfl Tryd.call81 (w_spec_FieldTop (hG.mono ((((hl1.trans hl2).trans hl3).trans hl4).trans hl11)) hC11.old hx1) fun v4 w12 hv4 => ?_)
    obtain ⟨hv4, hb8⟩ := hv4
    have hl12 := Le.no M1 hb8
    have hC12 := hC11.no hb8
    have ho22 := ho20.no hb8
    have ho23 := ho21.no hb8
    have hr9 := hr8.no hb8
    obtain rfl := vint_eq hv4
    exact ⟨hb8, rfl⟩
   ·
    intro w13 D hS5 hd5
    have hl13 := Le.no M1 hS5
    have hC13 := hC4.no hS5
    have ho24 := ho6.no hS5
    have ho25 := ho7.no hS5
    have hr10 := hw2.no hS5
    have hd5 : PEq (.int .i64 x1) (D 3) w13 ∧ True := hd5
    obtain ⟨d3, -⟩ := hd5
    refine dg_sub (E' := [(11, (.int .i64 x1))]) ⟨(congrArg some d3), trivial⟩ ?_
    refine dg_plain rfl (ow_build (v := .agg #[(.int .i64 0), (.int .i64 x1)]) rfl rfl (by kernel_rfl) ?_)
    have hw6 : VRep RSpan w13 M1 ({ Lo := 0, Hi := x1 } : Span) (.agg #[(.int .i64 0), (.int .i64 x1)]) := shut_Span
    exact ⟨BX.refl _ _, hw6⟩
   ·
    intro w14 D hS6 hd6
    have hl14 := Le.no M1 hS6
    have hC14 := hC4.no hS6
    have ho26 := ho6.no hS6
    have ho27 := ho7.no hS6
    have hr11 := hw2.no hS6
    have hd6 : PV RSpan M1 ({ Lo := 0, Hi := x1 } : Span) (D 4) w14 ∧ True := hd6
    obtain ⟨d4, -⟩ := hd6
    obtain ⟨v5, hq1⟩ : ∃ v, (D 4) = v := ⟨_, rfl⟩
    rw [hq1] at d4
    refine dg_sub (E' := [(12, v5)]) ⟨(congrArg some hq1), trivial⟩ ?_
    obtain rfl := open_Span d4
    refine dg_plain rfl (ow_buildSlice (R := RSpan) (xs := [({ Lo := 0, Hi := x1 } : Span)]) (cs := #[(.int .i64 ({ Lo := 0, Hi := x1 } : Span).Lo), (.int .i64 ({ Lo := 0, Hi := x1 } : Span).Hi)]) (e := 76) rfl rfl (by kernel_rfl) rfl rfl ⟨_, _, rfl, d4.cells, rfl⟩ hC14 fun p3 w15 hw7 hb9 hl15 hC15 => ?_)
    have ho28 := ho26.no hb9
    have ho29 := ho27.no hb9
    have hr12 := hr11.no hb9
    exact ⟨hb9, hw7⟩
   ·
    intro w16 D hS7 hd7
    have hl16 := Le.no M1 hS7
    have hC16 := hC4.no hS7
    have ho30 := ho6.no hS7
    have ho31 := ho7.no hS7
    have hr13 := hw2.no hS7
    have hd7 : PV (RSlice RSpan) M1 [({ Lo := 0, Hi := x1 } : Span)] (D 5) w16 ∧ True := hd7
    obtain ⟨d5, -⟩ := hd7
    obtain ⟨v6, hq2⟩ : ∃ v, (D 5) = v := ⟨_, rfl⟩
    rw [hq2] at d5
    refine dg_sub (E' := [(13, v6)]) ⟨(congrArg some hq2), trivial⟩ ?_
    obtain ⟨A1, c1, rfl, -⟩ := vslice_shape d5
    refine dg_plain rfl (ow_buildSlice (R := (RSlice RSpan)) (xs := [[({ Lo := 0, Hi := x1 } : Span)]]) (cs := #[(.slice A1 [({ Lo := 0, Hi := x1 } : Span)].length c1)]) (e := 58) rfl rfl (by kernel_rfl) rfl rfl ⟨_, _, rfl, d5.cells, rfl⟩ hC16 fun p4 w17 hw8 hb10 hl17 hC17 => ?_)
    have ho32 := ho30.no hb10
    have ho33 := ho31.no hb10
    have hr14 := hr13.no hb10
    exact ⟨hb10, hw8⟩
   ·
    intro w18 D hS8 hd8
    have hd8 : PEq (.pointer (some ⟨g2, 0, none⟩)) (D 0) w18 ∧ PEq v2 (D 1) w18 ∧ PEq (.int .i64 k1) (D 2) w18 ∧ PEq (.int .i64 x1) (D 3) w18 ∧ PV RSpan M1 ({ Lo := 0, Hi := x1 } : Span) (D 4) w18 ∧ PV (RSlice RSpan) M1 [({ Lo := 0, Hi := x1 } : Span)] (D 5) w18 ∧ PV (RSlice (RSlice RSpan)) M1 [[({ Lo := 0, Hi := x1 } : Span)]] (D 6) w18 ∧ True := hd8
    obtain ⟨-, d7, -, -, -, -, d12, -⟩ := hd8
    have hl18 := Le.no M1 hS8
    have hC18 := hC4.no hS8
    have ho34 := ho6.no hS8
    have ho35 := ho7.no hS8
    have hr15 := hw2.no hS8
    obtain ⟨v7, hq3⟩ : ∃ v, (D 6) = v := ⟨_, rfl⟩
    rw [hq3] at d12
    refine lw_sub (E' := [(9, v2), (14, v7), (0, (.pointer (some ⟨g1, 0, none⟩))), (1, (.pointer (some ⟨g2, 0, none⟩))), (2, (.int .i64 k1))]) ⟨(congrArg some d7), (congrArg some hq3), rfl, rfl, rfl, trivial⟩ ?_
    replace hb4 := bind_some hb4
    obtain ⟨z1, hz1, hb4⟩ := hb4
    refine lw_op rfl rfl rfl (ow_append (R := (RSlice RSpan)) rfl rfl rfl rfl Tryd.underlying25 hi58 hz58 hs58 hy58 rfl rfl rfl rfl hr15 d12 hz1 hC18 fun v8 w19 M2 hr16 hb11 hl19 hC19 hM1 hat1 => ?_)
    have ho36 := ho34.go hb11 (fun e => (orow_ne hr15 ho34 (by decide)) e)
    have hm6 := hM1 _ hm4
    have ho37 := ho35.go hb11 (fun e => (orow_ne hr15 ho35 (by decide)) e)
    have hm7 := hM1 _ hm5
    refine lw_op rfl rfl rfl (ow_fieldAddr rfl rfl Tryd.underlying27 rfl (Tryd.sizeOf25 _) ?_)
    obtain ⟨A2, c2, rfl⟩ := hr16.len
    refine lw_op0 rfl rfl (ow_store (X := No) (us := [(.slice A2 z1.length c2)]) (cs' := #[(.slice A2 z1.length c2)]) rfl rfl rfl rfl ho37 (Tryd.sizeOf25 _) rfl rfl rfl rfl hm7 (.inl hg4) rfl hC19 fun w20 ho38 hb12 hl20 hC20 => ?_)
    have ho39 := ho36.go hb12 (fun e => hn1 e)
    have hr17 := hr16.go hb12 (fun k hk e => (orow_ne hr16 ho37 (by decide)) (hk.trans (congrArg some e))) hl20 (fun _ h => h)
    refine lw_nil (ew_blockN ?_)
    refine ew_then (cw_region (lw_op rfl rfl rfl (ow_move rfl rfl ?_)))
    refine lw_op rfl rfl rfl (ow_add rfl rfl rfl ?_)
    refine lw_op rfl rfl rfl (ow_assign rfl rfl ?_)
    refine lw_nil (ew_nxt ((W (k1 + 1)), z1) hb4 fun a ha => ⟨M2, (.slice A2 z1.length c2), ?_, (((hl4.trans hl18).trans hl19).trans hl20), hC20, hr17, ho39, hm6, ho38, hm7⟩)
    exact ha.sub ⟨rfl, rfl, rfl, trivial⟩
  ·
   obtain rfl := hbb1.trans hc1
   refine cw_false rfl ?_
   refine cw_exit ?_
   refine ew_thenX ?_
   refine ew_thenX ?_
   refine ew_blockX ?_
   refine ew_brk (k1, y1) hb4 fun a ha => ⟨M1, v2, ?_, hl4, hC4, hw2, ho6, hm4, ho7, hm5⟩
   exact ha.sub ⟨rfl, rfl, rfl, trivial⟩
 ·
  rintro ⟨k2, y2⟩ a w21 hlr2 ⟨M3, v10, hF2, hl21, hC21, hw9, ho40, hm8, ho41, hm9⟩
  subst hlr2
  refine ew_at (E := [(0, (.pointer (some ⟨g1, 0, none⟩))), (1, (.pointer (some ⟨g2, 0, none⟩))), (2, (.int .i64 k2))]) hF2 ?_
  refine ew_then (cw_seq (cw_region ?_))
  obtain ⟨A3, c3, rfl⟩ := hw9.len
  refine lw_op rfl rfl rfl (ow_loadOwnA rfl rfl rfl ho41 (Tryd.isAgg27 _) (Tryd.sizeOf27 _) rfl ?_)
  refine lw_op0 rfl rfl (ow_store (X := No) (us := [(.slice A3 y2.length c3)]) (cs' := #[(.slice A3 y2.length c3)]) rfl rfl rfl rfl ho40 (Tryd.sizeOf27 _) rfl rfl rfl rfl hm8 (.inl hg2) rfl hC21 fun w22 ho42 hb13 hl22 hC22 => ?_)
  have ho43 := ho41.go hb13 (fun e => hn1 e.symm)
  have hr18 := hw9.go hb13 (fun k hk e => (orow_ne hw9 ho40 (by decide)) (hk.trans (congrArg some e))) hl22 (fun _ h => h)
  refine lw_nil (ew_then (cw_ret ?_))
  obtain rfl := Option.some.inj h
  exact ew_ret (res1 rfl (.cell rfl (own_loadVarA ho42 (Tryd.isAgg27 _) (Tryd.sizeOf27 _) rfl))) ⟨_, rfl, ⟨M3, _, rfl, hr18, hC22⟩, hC22.bx⟩

theorem w_spec_l2Meet {w : World} {M : Nat → Prop} (_hG : ARep (RArr 4 RShape) w M shapes ⟨0, 0, none⟩) (hO : ∀ b, M b → b < w.heap.size) {v0p : Value} {a_a : List Span} (h0 : VRep (RSlice RSpan) w M a_a v0p) {v1p : Value} {a_b : List Span} (h1 : VRep (RSlice RSpan) w M a_b v1p) {r : (List Span)} (h : F.spec_l2Meet a_a a_b = some r) :
  Calls Tryd.prog 60 [v0p, v1p].toArray w fun e w' => ∃ v, e = .returned v ∧ VRep (RSlice RSpan) w' M r v ∧ BX No w w' := by
 obtain ⟨i76, hi76, hz76, hs76, hy76⟩ := info76
 have hC : Cx No w M w M := Cx.start hO (fun _ e => e.elim)
 clear _hG
 refine walk (N := 55) Tryd.func60 rfl Tryd.ntmps60 rfl ?_
 refine cw_seq (cw_region (lw_op rfl rfl rfl (ow_assign rfl rfl ?_)))
 refine lw_nil (ew_then (cw_seq (cw_region (lw_op rfl rfl rfl (ow_buildSlice0 (R := RSpan) (e := 76) rfl (by kernel_rfl) hC fun p1 w1 M1 hr1 hb1 hl1 hC1 hM1 hat1 => ?_)))))
 refine lw_op rfl rfl rfl (ow_assign rfl rfl ?_)
 refine lw_nil (ew_then (cw_seq (cw_seq (cw_region (lw_op rfl rfl rfl (ow_assign rfl rfl ?_))))))
 refine lw_nil (ew_then ?_)
 replace h := bind_some h
 obtain ⟨lr1, hlr1, h⟩ := h
 refine cw_for hlr1 (fun s a w' => ∃ (M' : Nat → Prop) (v0c : Value), Fits 55 [(0, v0p), (1, v1p), (5, v0c), (6, (.int .i64 s.2))] a ∧ Le w1 M1 w' M' ∧ Cx No w M w' M' ∧ OwnRow RSpan w.heap.size 76 w' M' s.1 v0c) ?_ ?_ ?_
 ·
  intro a ha
  exact ⟨M1, (.slice (some p1) 0 0), ha.sub ⟨rfl, rfl, rfl, rfl, trivial⟩, Le.refl _ _, hC1, hr1⟩
 ·
  rintro ⟨y1, k1⟩ a w2 sr1 ⟨M2, v1, hF1, hl2, hC2, hw1⟩ hb2 hR1
  refine cw_at (E := [(0, v0p), (1, v1p), (5, v1), (6, (.int .i64 k1))]) hF1 ?_
  refine cw_seq (cw_seq (cw_region (lw_op rfl rfl rfl (ow_move rfl rfl ?_))))
  refine lw_op rfl rfl rfl (ow_move rfl rfl ?_)
  refine lw_op rfl rfl rfl (ow_len rfl rfl (VRep.mono (hl1.trans hl2) h0) Tryd.underlying58 rfl ?_)
  refine lw_op rfl rfl rfl (ow_lss rfl rfl rfl fun bb1 hbb1 => ?_)
  refine lw_nil (ew_then ?_)
  replace hb2 := cond_some hb2
  rcases hb2 with ⟨hc1, hb2⟩ | ⟨hc1, hb2⟩
  ·
   obtain rfl := hbb1.trans hc1
   refine cw_true rfl ?_
   refine cw_skip (ew_then (cw_seq (cw_block ?_)))
   refine cw_seq (cw_region (lw_op rfl rfl rfl (ow_assign rfl rfl ?_)))
   refine lw_nil (ew_then ?_)
   replace hb2 := bind_some hb2
   obtain ⟨lr2, hlr2, hb2⟩ := hb2
   refine cw_for hlr2 (fun s a w' => ∃ (M' : Nat → Prop) (v0c : Value), Fits 55 [(0, v0p), (1, v1p), (5, v0c), (6, (.int .i64 k1)), (7, (.int .i64 s.2))] a ∧ Le w2 M2 w' M' ∧ Cx No w M w' M' ∧ OwnRow RSpan w.heap.size 76 w' M' s.1 v0c) ?_ ?_ ?_
   ·
    intro a ha
    exact ⟨M2, v1, ha.sub ⟨rfl, rfl, rfl, rfl, rfl, trivial⟩, Le.refl _ _, hC2, hw1⟩
   ·
    rintro ⟨y2, k2⟩ a w3 sr2 ⟨M3, v3, hF2, hl3, hC3, hw2⟩ hb3 hR2
    refine cw_at (E := [(0, v0p), (1, v1p), (5, v3), (6, (.int .i64 k1)), (7, (.int .i64 k2))]) hF2 ?_
    refine cw_seq (cw_seq (cw_region (lw_op rfl rfl rfl (ow_move rfl rfl ?_))))
    refine lw_op rfl rfl rfl (ow_move rfl rfl ?_)
    refine lw_op rfl rfl rfl (ow_len rfl rfl (VRep.mono ((hl1.trans hl2).trans hl3) h1) Tryd.underlying58 rfl ?_)
    refine lw_op rfl rfl rfl (ow_lss rfl rfl rfl fun bb2 hbb2 => ?_)
    refine lw_nil (ew_then ?_)
    replace hb3 := cond_some hb3
    rcases hb3 with ⟨hc2, hb3⟩ | ⟨hc2, hb3⟩
    ·
     obtain rfl := hbb2.trans hc2
     refine cw_true rfl ?_
     refine cw_skip (ew_then (cw_seq (cw_block ?_)))
     refine cw_seq ?_
     replace hb3 := bind_some hb3
     obtain ⟨x1, hx1, hb3⟩ := hb3
     replace hb3 := bind_some hb3
     obtain ⟨x2, hx2, hb3⟩ := hb3
     refine cw_sub (E' := [(0, v0p), (1, v1p), (5, v3), (6, (.int .i64 k1)), (7, (.int .i64 k2))]) ⟨rfl, rfl, rfl, rfl, rfl, trivial⟩ ?_
     refine cw_drawQ 10 [PV (RSlice RSpan) M3 a_a, PEq (.int .i64 k1), PA RSpan M3 x1, PA RInt M3 x1.Lo, PEq (.int .i64 x1.Lo), PV (RSlice RSpan) M3 a_b, PEq (.int .i64 k2), PA RSpan M3 x2, PA RInt M3 x2.Lo, PEq (.int .i64 x2.Lo)] (by kernel_rfl) rfl (by kernel_rfl) ⟨PV.mono _ _ _, PEq.mono _, PA.mono _ _ _, PA.mono _ _ _, PEq.mono _, PV.mono _ _ _, PEq.mono _, PA.mono _ _ _, PA.mono _ _ _, PEq.mono _, trivial⟩ ⟨?_, ?_, ?_, ?_, ?_, ?_, ?_, ?_, ?_, ?_, trivial⟩ ?_
     ·
      intro w4 D hS1 hd1
      have hl4 := Le.no M3 hS1
      have hC4 := hC3.no hS1
      have hr2 := hw2.no hS1
      refine dg_sub (E' := [(0, v0p)]) ⟨rfl, trivial⟩ ?_
      refine dg_plain rfl (ow_move rfl rfl ?_)
      exact ⟨BX.refl _ _, (VRep.mono (((hl1.trans hl2).trans hl3).trans hl4) h0)⟩
     ·
      intro w5 D hS2 hd2
      have hl5 := Le.no M3 hS2
      have hC5 := hC3.no hS2
      have hr3 := hw2.no hS2
      refine dg_sub (E' := [(6, (.int .i64 k1))]) ⟨rfl, trivial⟩ ?_
      refine dg_plain rfl (ow_move rfl rfl ?_)
      exact ⟨BX.refl _ _, rfl⟩
     ·
      intro w6 D hS3 hd3
      have hl6 := Le.no M3 hS3
      have hC6 := hC3.no hS3
      have hr4 := hw2.no hS3
      have hd3 : PV (RSlice RSpan) M3 a_a (D 0) w6 ∧ PEq (.int .i64 k1) (D 1) w6 ∧ True := hd3
      obtain ⟨d1, d2, -⟩ := hd3
      obtain ⟨v7, hq1⟩ : ∃ v, (D 0) = v := ⟨_, rfl⟩
      rw [hq1] at d1
      refine dg_sub (E' := [(23, v7), (24, (.int .i64 k1))]) ⟨(congrArg some hq1), (congrArg some d2), trivial⟩ ?_
      refine dg_plain rfl (ow_indexSlice (R := RSpan) rfl rfl rfl d1 Tryd.underlying58 (Tryd.sizeOf76 _) hx1 fun p4 hp4 => ?_)
      exact ⟨BX.refl _ _, ⟨_, rfl, hp4⟩⟩
     ·
      intro w7 D hS4 hd4
      have hl7 := Le.no M3 hS4
      have hC7 := hC3.no hS4
      have hr5 := hw2.no hS4
      have hd4 : PA RSpan M3 x1 (D 2) w7 ∧ True := hd4
      obtain ⟨d3, -⟩ := hd4
      obtain ⟨p5, e1, ha1⟩ := d3
      refine dg_sub (E' := [(25, (.pointer (some p5)))]) ⟨(congrArg some e1), trivial⟩ ?_
      refine dg_plain rfl (ow_fieldAddr rfl rfl Tryd.underlying76 rfl (Tryd.sizeOf3 _) ?_)
      exact ⟨BX.refl _ _, ⟨_, rfl, (ha1.fld fld_Span_Lo)⟩⟩
     ·
      intro w8 D hS5 hd5
      have hl8 := Le.no M3 hS5
      have hC8 := hC3.no hS5
      have hr6 := hw2.no hS5
      have hd5 : PA RInt M3 x1.Lo (D 3) w8 ∧ True := hd5
      obtain ⟨d4, -⟩ := hd5
      obtain ⟨p6, e2, ha2⟩ := d4
      refine dg_sub (E' := [(26, (.pointer (some p6)))]) ⟨(congrArg some e2), trivial⟩ ?_
      refine dg_plain rfl (ow_load (R := RInt) rfl rfl ha2 (Tryd.sizeOf3 _) (Tryd.isAgg3 _) fun v8 hv8 => ?_)
      obtain rfl := vint_eq hv8
      exact ⟨BX.refl _ _, rfl⟩
     ·
      intro w9 D hS6 hd6
      have hl9 := Le.no M3 hS6
      have hC9 := hC3.no hS6
      have hr7 := hw2.no hS6
      refine dg_sub (E' := [(1, v1p)]) ⟨rfl, trivial⟩ ?_
      refine dg_plain rfl (ow_move rfl rfl ?_)
      exact ⟨BX.refl _ _, (VRep.mono (((hl1.trans hl2).trans hl3).trans hl9) h1)⟩
     ·
      intro w10 D hS7 hd7
      have hl10 := Le.no M3 hS7
      have hC10 := hC3.no hS7
      have hr8 := hw2.no hS7
      refine dg_sub (E' := [(7, (.int .i64 k2))]) ⟨rfl, trivial⟩ ?_
      refine dg_plain rfl (ow_move rfl rfl ?_)
      exact ⟨BX.refl _ _, rfl⟩
     ·
      intro w11 D hS8 hd8
      have hl11 := Le.no M3 hS8
      have hC11 := hC3.no hS8
      have hr9 := hw2.no hS8
      have hd8 : PV (RSlice RSpan) M3 a_b (D 5) w11 ∧ PEq (.int .i64 k2) (D 6) w11 ∧ True := hd8
      obtain ⟨d5, d6, -⟩ := hd8
      obtain ⟨v9, hq2⟩ : ∃ v, (D 5) = v := ⟨_, rfl⟩
      rw [hq2] at d5
      refine dg_sub (E' := [(28, v9), (29, (.int .i64 k2))]) ⟨(congrArg some hq2), (congrArg some d6), trivial⟩ ?_
      refine dg_plain rfl (ow_indexSlice (R := RSpan) rfl rfl rfl d5 Tryd.underlying58 (Tryd.sizeOf76 _) hx2 fun p7 hp7 => ?_)
      exact ⟨BX.refl _ _, ⟨_, rfl, hp7⟩⟩
     ·
      intro w12 D hS9 hd9
      have hl12 := Le.no M3 hS9
      have hC12 := hC3.no hS9
      have hr10 := hw2.no hS9
      have hd9 : PA RSpan M3 x2 (D 7) w12 ∧ True := hd9
      obtain ⟨d7, -⟩ := hd9
      obtain ⟨p8, e3, ha3⟩ := d7
      refine dg_sub (E' := [(30, (.pointer (some p8)))]) ⟨(congrArg some e3), trivial⟩ ?_
      refine dg_plain rfl (ow_fieldAddr rfl rfl Tryd.underlying76 rfl (Tryd.sizeOf3 _) ?_)
      exact ⟨BX.refl _ _, ⟨_, rfl, (ha3.fld fld_Span_Lo)⟩⟩
     ·
      intro w13 D hS10 hd10
      have hl13 := Le.no M3 hS10
      have hC13 := hC3.no hS10
      have hr11 := hw2.no hS10
      have hd10 : PA RInt M3 x2.Lo (D 8) w13 ∧ True := hd10
      obtain ⟨d8, -⟩ := hd10
      obtain ⟨p9, e4, ha4⟩ := d8
      refine dg_sub (E' := [(31, (.pointer (some p9)))]) ⟨(congrArg some e4), trivial⟩ ?_
      refine dg_plain rfl (ow_load (R := RInt) rfl rfl ha4 (Tryd.sizeOf3 _) (Tryd.isAgg3 _) fun v10 hv10 => ?_)
      obtain rfl := vint_eq hv10
      exact ⟨BX.refl _ _, rfl⟩
     ·
      intro w14 D hS11 hd11
      have hd11 : PV (RSlice RSpan) M3 a_a (D 0) w14 ∧ PEq (.int .i64 k1) (D 1) w14 ∧ PA RSpan M3 x1 (D 2) w14 ∧ PA RInt M3 x1.Lo (D 3) w14 ∧ PEq (.int .i64 x1.Lo) (D 4) w14 ∧ PV (RSlice RSpan) M3 a_b (D 5) w14 ∧ PEq (.int .i64 k2) (D 6) w14 ∧ PA RSpan M3 x2 (D 7) w14 ∧ PA RInt M3 x2.Lo (D 8) w14 ∧ PEq (.int .i64 x2.Lo) (D 9) w14 ∧ True := hd11
      obtain ⟨-, -, -, -, d13, -, -, -, -, d18, -⟩ := hd11
      have hl14 := Le.no M3 hS11
      have hC14 := hC3.no hS11
      have hr12 := hw2.no hS11
      refine lw_sub (E' := [(27, (.int .i64 x1.Lo)), (32, (.int .i64 x2.Lo)), (0, v0p), (1, v1p), (5, v3), (6, (.int .i64 k1)), (7, (.int .i64 k2))]) ⟨(congrArg some d13), (congrArg some d18), rfl, rfl, rfl, rfl, rfl, trivial⟩ ?_
      refine lw_op rfl rfl rfl (ow_max rfl rfl rfl ?_)
      refine lw_op rfl rfl rfl (ow_assign rfl rfl ?_)
      refine lw_nil (ew_then (cw_seq (cw_sub (E' := [(0, v0p), (1, v1p), (5, v3), (6, (.int .i64 k1)), (7, (.int .i64 k2)), (8, (.int .i64 (imax x1.Lo x2.Lo)))]) ⟨rfl, rfl, rfl, rfl, rfl, rfl, trivial⟩ ?_)))
      refine cw_drawQ 10 [PV (RSlice RSpan) M3 a_a, PEq (.int .i64 k1), PA RSpan M3 x1, PA RInt M3 x1.Hi, PEq (.int .i64 x1.Hi), PV (RSlice RSpan) M3 a_b, PEq (.int .i64 k2), PA RSpan M3 x2, PA RInt M3 x2.Hi, PEq (.int .i64 x2.Hi)] (by kernel_rfl) rfl (by kernel_rfl) ⟨PV.mono _ _ _, PEq.mono _, PA.mono _ _ _, PA.mono _ _ _, PEq.mono _, PV.mono _ _ _, PEq.mono _, PA.mono _ _ _, PA.mono _ _ _, PEq.mono _, trivial⟩ ⟨?_, ?_, ?_, ?_, ?_, ?_, ?_, ?_, ?_, ?_, trivial⟩ ?_
      ·
       intro w15 D hS12 hd12
       have hl15 := Le.no M3 hS12
       have hC15 := hC14.no hS12
       have hr13 := hr12.no hS12
       refine dg_sub (E' := [(0, v0p)]) ⟨rfl, trivial⟩ ?_
       refine dg_plain rfl (ow_move rfl rfl ?_)
       exact ⟨BX.refl _ _, (VRep.mono ((((hl1.trans hl2).trans hl3).trans hl14).trans hl15) h0)⟩
      ·
       intro w16 D hS13 hd13
       have hl16 := Le.no M3 hS13
       have hC16 := hC14.no hS13
       have hr14 := hr12.no hS13
       refine dg_sub (E' := [(6, (.int .i64 k1))]) ⟨rfl, trivial⟩ ?_
       refine dg_plain rfl (ow_move rfl rfl ?_)
       exact ⟨BX.refl _ _, rfl⟩
      ·
       intro w17 D hS14 hd14
       have hl17 := Le.no M3 hS14
       have hC17 := hC14.no hS14
       have hr15 := hr12.no hS14
       have hd14 : PV (RSlice RSpan) M3 a_a (D 0) w17 ∧ PEq (.int .i64 k1) (D 1) w17 ∧ True := hd14
       obtain ⟨d19, d20, -⟩ := hd14
       obtain ⟨v13, hq3⟩ : ∃ v, (D 0) = v := ⟨_, rfl⟩
       rw [hq3] at d19
       refine dg_sub (E' := [(34, v13), (35, (.int .i64 k1))]) ⟨(congrArg some hq3), (congrArg some d20), trivial⟩ ?_
       refine dg_plain rfl (ow_indexSlice (R := RSpan) rfl rfl rfl d19 Tryd.underlying58 (Tryd.sizeOf76 _) hx1 fun p12 hp12 => ?_)
       exact ⟨BX.refl _ _, ⟨_, rfl, hp12⟩⟩
      ·
       intro w18 D hS15 hd15
       have hl18 := Le.no M3 hS15
       have hC18 := hC14.no hS15
       have hr16 := hr12.no hS15
       have hd15 : PA RSpan M3 x1 (D 2) w18 ∧ True := hd15
       obtain ⟨d21, -⟩ := hd15
       obtain ⟨p13, e5, ha5⟩ := d21
       refine dg_sub (E' := [(36, (.pointer (some p13)))]) ⟨(congrArg some e5), trivial⟩ ?_
       refine dg_plain rfl (ow_fieldAddr rfl rfl Tryd.underlying76 rfl (Tryd.sizeOf3 _) ?_)
       exact ⟨BX.refl _ _, ⟨_, rfl, (ha5.fld fld_Span_Hi)⟩⟩
      ·
       intro w19 D hS16 hd16
       have hl19 := Le.no M3 hS16
       have hC19 := hC14.no hS16
       have hr17 := hr12.no hS16
       have hd16 : PA RInt M3 x1.Hi (D 3) w19 ∧ True := hd16
       obtain ⟨d22, -⟩ := hd16
       obtain ⟨p14, e6, ha6⟩ := d22
       refine dg_sub (E' := [(37, (.pointer (some p14)))]) ⟨(congrArg some e6), trivial⟩ ?_
       refine dg_plain rfl (ow_load (R := RInt) rfl rfl ha6 (Tryd.sizeOf3 _) (Tryd.isAgg3 _) fun v14 hv14 => ?_)
       obtain rfl := vint_eq hv14
       exact ⟨BX.refl _ _, rfl⟩
      ·
       intro w20 D hS17 hd17
       have hl20 := Le.no M3 hS17
       have hC20 := hC14.no hS17
       have hr18 := hr12.no hS17
       refine dg_sub (E' := [(1, v1p)]) ⟨rfl, trivial⟩ ?_
       refine dg_plain rfl (ow_move rfl rfl ?_)
       exact ⟨BX.refl _ _, (VRep.mono ((((hl1.trans hl2).trans hl3).trans hl14).trans hl20) h1)⟩
      ·
       intro w21 D hS18 hd18
       have hl21 := Le.no M3 hS18
       have hC21 := hC14.no hS18
       have hr19 := hr12.no hS18
       refine dg_sub (E' := [(7, (.int .i64 k2))]) ⟨rfl, trivial⟩ ?_
       refine dg_plain rfl (ow_move rfl rfl ?_)
       exact ⟨BX.refl _ _, rfl⟩
      ·
       intro w22 D hS19 hd19
       have hl22 := Le.no M3 hS19
       have hC22 := hC14.no hS19
       have hr20 := hr12.no hS19
       have hd19 : PV (RSlice RSpan) M3 a_b (D 5) w22 ∧ PEq (.int .i64 k2) (D 6) w22 ∧ True := hd19
       obtain ⟨d23, d24, -⟩ := hd19
       obtain ⟨v15, hq4⟩ : ∃ v, (D 5) = v := ⟨_, rfl⟩
       rw [hq4] at d23
       refine dg_sub (E' := [(39, v15), (40, (.int .i64 k2))]) ⟨(congrArg some hq4), (congrArg some d24), trivial⟩ ?_
       refine dg_plain rfl (ow_indexSlice (R := RSpan) rfl rfl rfl d23 Tryd.underlying58 (Tryd.sizeOf76 _) hx2 fun p15 hp15 => ?_)
       exact ⟨BX.refl _ _, ⟨_, rfl, hp15⟩⟩
      ·
       intro w23 D hS20 hd20
       have hl23 := Le.no M3 hS20
       have hC23 := hC14.no hS20
       have hr21 := hr12.no hS20
       have hd20 : PA RSpan M3 x2 (D 7) w23 ∧ True := hd20
       obtain ⟨d25, -⟩ := hd20
       obtain ⟨p16, e7, ha7⟩ := d25
       refine dg_sub (E' := [(41, (.pointer (some p16)))]) ⟨(congrArg some e7), trivial⟩ ?_
       refine dg_plain rfl (ow_fieldAddr rfl rfl Tryd.underlying76 rfl (Tryd.sizeOf3 _) ?_)
       exact ⟨BX.refl _ _, ⟨_, rfl, (ha7.fld fld_Span_Hi)⟩⟩
      ·
       intro w24 D hS21 hd21
       have hl24 := Le.no M3 hS21
       have hC24 := hC14.no hS21
       have hr22 := hr12.no hS21
       have hd21 : PA RInt M3 x2.Hi (D 8) w24 ∧ True := hd21
       obtain ⟨d26, -⟩ := hd21
       obtain ⟨p17, e8, ha8⟩ := d26
       refine dg_sub (E' := [(42, (.pointer (some p17)))]) ⟨(congrArg some e8), trivial⟩ ?_
       refine dg_plain rfl (ow_load (R := RInt) rfl rfl ha8 (Tryd.sizeOf3 _) (Tryd.isAgg3 _) fun v16 hv16 => ?_)
       obtain rfl := vint_eq hv16
       exact ⟨BX.refl _ _, rfl⟩
      ·
       intro w25 D hS22 hd22
       have hd22 : PV (RSlice RSpan) M3 a_a (D 0) w25 ∧ PEq (.int .i64 k1) (D 1) w25 ∧ PA RSpan M3 x1 (D 2) w25 ∧ PA RInt M3 x1.Hi (D 3) w25 ∧ PEq (.int .i64 x1.Hi) (D 4) w25 ∧ PV (RSlice RSpan) M3 a_b (D 5) w25 ∧ PEq (.int .i64 k2) (D 6) w25 ∧ PA RSpan M3 x2 (D 7) w25 ∧ PA RInt M3 x2.Hi (D 8) w25 ∧ PEq (.int .i64 x2.Hi) (D 9) w25 ∧ True := hd22
       obtain ⟨-, -, -, -, d31, -, -, -, -, d36, -⟩ := hd22
       have hl25 := Le.no M3 hS22
       have hC25 := hC14.no hS22
       have hr23 := hr12.no hS22
       refine lw_sub (E' := [(38, (.int .i64 x1.Hi)), (43, (.int .i64 x2.Hi)), (0, v0p), (1, v1p), (5, v3), (6, (.int .i64 k1)), (7, (.int .i64 k2)), (8, (.int .i64 (imax x1.Lo x2.Lo)))]) ⟨(congrArg some d31), (congrArg some d36), rfl, rfl, rfl, rfl, rfl, rfl, trivial⟩ ?_
       refine lw_op rfl rfl rfl (ow_min rfl rfl rfl ?_)
       refine lw_op rfl rfl rfl (ow_assign rfl rfl ?_)
       refine lw_nil (ew_then (cw_seq (cw_region (lw_op rfl rfl rfl (ow_move rfl rfl ?_)))))
       refine lw_op rfl rfl rfl (ow_move rfl rfl ?_)
       refine lw_op rfl rfl rfl (ow_leq rfl rfl rfl fun bb3 hbb3 => ?_)
       refine lw_nil (ew_then ?_)
       replace hb3 := cond_some hb3
       rcases hb3 with ⟨hc3, hb3⟩ | ⟨hc3, hb3⟩
       ·
        obtain rfl := hbb3.trans hc3
        refine cw_true rfl ?_
        refine cw_region (lw_op rfl rfl rfl (ow_move rfl rfl ?_))
        refine lw_op rfl rfl rfl (ow_move rfl rfl ?_)
        refine lw_op rfl rfl rfl (ow_move rfl rfl ?_)
        refine lw_op rfl rfl rfl (ow_build (v := .agg #[(.int .i64 (imax x1.Lo x2.Lo)), (.int .i64 (imin x1.Hi x2.Hi))]) rfl rfl (by kernel_rfl) ?_)
        have hw3 : VRep RSpan w25 M3 ({ Lo := (imax x1.Lo x2.Lo), Hi := (imin x1.Hi x2.Hi) } : Span) (.agg #[(.int .i64 (imax x1.Lo x2.Lo)), (.int .i64 (imin x1.Hi x2.Hi))]) := shut_Span
        refine lw_op rfl rfl rfl (ow_buildSlice (R := RSpan) (xs := [({ Lo := (imax x1.Lo x2.Lo), Hi := (imin x1.Hi x2.Hi) } : Span)]) (cs := #[(.int .i64 (imax x1.Lo x2.Lo)), (.int .i64 (imin x1.Hi x2.Hi))]) (e := 76) rfl rfl (by kernel_rfl) rfl rfl ⟨_, _, rfl, hw3.cells, rfl⟩ hC25 fun p18 w26 hw4 hb4 hl26 hC26 => ?_)
        have hr24 := hr23.no hb4
        replace hb3 := bind_some hb3
        obtain ⟨z1, hz1, hb3⟩ := hb3
        refine lw_op rfl rfl rfl (ow_append (R := RSpan) rfl rfl rfl rfl Tryd.underlying58 hi76 hz76 hs76 hy76 rfl rfl rfl rfl hr24 hw4 hz1 hC26 fun v17 w27 M4 hr25 hb5 hl27 hC27 hM2 hat2 => ?_)
        refine lw_op rfl rfl rfl (ow_assign rfl rfl ?_)
        refine lw_nil (ew_blockN ?_)
        refine ew_then (cw_region (lw_op rfl rfl rfl (ow_move rfl rfl ?_)))
        refine lw_op rfl rfl rfl (ow_add rfl rfl rfl ?_)
        refine lw_op rfl rfl rfl (ow_assign rfl rfl ?_)
        refine lw_nil (ew_nxt (z1, (W (k2 + 1))) hb3 fun a ha => ⟨M4, v17, ?_, ((((hl3.trans hl14).trans hl25).trans hl26).trans hl27), hC27, hr25⟩)
        exact ha.sub ⟨rfl, rfl, rfl, rfl, rfl, trivial⟩
       ·
        obtain rfl := hbb3.trans hc3
        refine cw_false rfl ?_
        refine cw_skip (ew_blockN ?_)
        refine ew_then (cw_region (lw_op rfl rfl rfl (ow_move rfl rfl ?_)))
        refine lw_op rfl rfl rfl (ow_add rfl rfl rfl ?_)
        refine lw_op rfl rfl rfl (ow_assign rfl rfl ?_)
        refine lw_nil (ew_nxt (y2, (W (k2 + 1))) hb3 fun a ha => ⟨M3, v3, ?_, ((hl3.trans hl14).trans hl25), hC25, hr23⟩)
        exact ha.sub ⟨rfl, rfl, rfl, rfl, rfl, trivial⟩
    ·
     obtain rfl := hbb2.trans hc2
     refine cw_false rfl ?_
     refine cw_exit ?_
     refine ew_thenX ?_
     refine ew_thenX ?_
     refine ew_blockX ?_
     refine ew_brk (y2, k2) hb3 fun a ha => ⟨M3, v3, ?_, hl3, hC3, hw2⟩
     exact ha.sub ⟨rfl, rfl, rfl, rfl, rfl, trivial⟩
   ·
    rintro ⟨y3, k3⟩ a w28 hlr3 ⟨M5, v18, hF3, hl28, hC28, hw5⟩
    subst hlr3
    refine ew_at (E := [(0, v0p), (1, v1p), (5, v18), (6, (.int .i64 k1)), (7, (.int .i64 k3))]) hF3 ?_
    refine ew_blockN ?_
    refine ew_then (cw_region (lw_op rfl rfl rfl (ow_move rfl rfl ?_)))
    refine lw_op rfl rfl rfl (ow_add rfl rfl rfl ?_)
    refine lw_op rfl rfl rfl (ow_assign rfl rfl ?_)
    refine lw_nil (ew_nxt (y3, (W (k1 + 1))) hb2 fun a ha => ⟨M5, v18, ?_, (hl2.trans hl28), hC28, hw5⟩)
    exact ha.sub ⟨rfl, rfl, rfl, rfl, trivial⟩
  ·
   obtain rfl := hbb1.trans hc1
   refine cw_false rfl ?_
   refine cw_exit ?_
   refine ew_thenX ?_
   refine ew_thenX ?_
   refine ew_blockX ?_
   refine ew_brk (y1, k1) hb2 fun a ha => ⟨M2, v1, ?_, hl2, hC2, hw1⟩
   exact ha.sub ⟨rfl, rfl, rfl, rfl, trivial⟩
 ·
  rintro ⟨y4, k4⟩ a w29 hlr4 ⟨M6, v20, hF4, hl29, hC29, hw6⟩
  subst hlr4
  refine ew_at (E := [(0, v0p), (1, v1p), (5, v20), (6, (.int .i64 k4))]) hF4 ?_
  refine ew_then (cw_seq (cw_region (lw_op rfl rfl rfl (ow_move rfl rfl ?_))))
  refine lw_op rfl rfl rfl (ow_assign rfl rfl ?_)
  refine lw_nil (ew_then (cw_ret ?_))
  obtain rfl := Option.some.inj h
  exact ew_ret (res1 rfl (.tmp rfl)) ⟨_, rfl, (hw6.freezeBack hC29 hO), hC29.bx⟩

theorem w_spec_l2Other {w : World} {M : Nat → Prop} (_hG : ARep (RArr 4 RShape) w M shapes ⟨0, 0, none⟩) (hO : ∀ b, M b → b < w.heap.size) {v0p : Value} {a_a : List Span} (h0 : VRep (RSlice RSpan) w M a_a v0p) {a_top : Int} {r : (List Span)} (h : F.spec_l2Other a_a a_top = some r) :
  Calls Tryd.prog 97 [v0p, (.int .i64 a_top)].toArray w fun e w' => ∃ v, e = .returned v ∧ VRep (RSlice RSpan) w' M r v ∧ BX No w w' := by
 obtain ⟨i76, hi76, hz76, hs76, hy76⟩ := info76
 have hC : Cx No w M w M := Cx.start hO (fun _ e => e.elim)
 clear _hG
 refine walk (N := 49) Tryd.func97 rfl Tryd.ntmps97 rfl ?_
 refine cw_seq (cw_region (lw_op rfl rfl rfl (ow_assign rfl rfl ?_)))
 refine lw_nil (ew_then (cw_seq (cw_region (lw_op rfl rfl rfl (ow_buildSlice0 (R := RSpan) (e := 76) rfl (by kernel_rfl) hC fun p1 w1 M1 hr1 hb1 hl1 hC1 hM1 hat1 => ?_)))))
 refine lw_op rfl rfl rfl (ow_assign rfl rfl ?_)
 refine lw_nil (ew_then (cw_seq (cw_region (lw_op rfl rfl rfl (ow_assign rfl rfl ?_)))))
 refine lw_nil (ew_then (cw_seq (cw_seq (cw_region (lw_op rfl rfl rfl (ow_assign rfl rfl ?_))))))
 refine lw_nil (ew_then ?_)
 replace h := bind_some h
 obtain ⟨lr1, hlr1, h⟩ := h
 refine cw_for hlr1 (fun s a w' => ∃ (M' : Nat → Prop) (v0c : Value), Fits 49 [(0, v0p), (1, (.int .i64 a_top)), (5, v0c), (6, (.int .i64 s.2.1)), (7, (.int .i64 s.2.2))] a ∧ Le w1 M1 w' M' ∧ Cx No w M w' M' ∧ OwnRow RSpan w.heap.size 76 w' M' s.1 v0c) ?_ ?_ ?_
 ·
  intro a ha
  exact ⟨M1, (.slice (some p1) 0 0), ha.sub ⟨rfl, rfl, rfl, rfl, rfl, trivial⟩, Le.refl _ _, hC1, hr1⟩
 ·
  rintro ⟨y1, k1, k2⟩ a w2 sr1 ⟨M2, v1, hF1, hl2, hC2, hw1⟩ hb2 hR1
  refine cw_at (E := [(0, v0p), (1, (.int .i64 a_top)), (5, v1), (6, (.int .i64 k1)), (7, (.int .i64 k2))]) hF1 ?_
  refine cw_seq (cw_seq (cw_region (lw_op rfl rfl rfl (ow_move rfl rfl ?_))))
  refine lw_op rfl rfl rfl (ow_move rfl rfl ?_)
  refine lw_op rfl rfl rfl (ow_len rfl rfl (VRep.mono (hl1.trans hl2) h0) Tryd.underlying58 rfl ?_)
  refine lw_op rfl rfl rfl (ow_lss rfl rfl rfl fun bb1 hbb1 => ?_)
  refine lw_nil (ew_then ?_)
  replace hb2 := cond_some hb2
  rcases hb2 with ⟨hc1, hb2⟩ | ⟨hc1, hb2⟩
  ·
   obtain rfl := hbb1.trans hc1
   refine cw_true rfl ?_
   refine cw_skip (ew_then (cw_seq (cw_block ?_)))
   refine cw_seq (cw_seq (cw_region (lw_op rfl rfl rfl (ow_move rfl rfl ?_))))
   refine lw_op rfl rfl rfl (ow_move rfl rfl ?_)
   refine lw_op rfl rfl rfl (ow_move rfl rfl ?_)
   replace hb2 := bind_some hb2
   obtain ⟨x1, hx1, hb2⟩ := hb2
   refine lw_op rfl rfl rfl (ow_indexSlice (R := RSpan) rfl rfl rfl (VRep.mono (hl1.trans hl2) h0) Tryd.underlying58 (Tryd.sizeOf76 _) hx1 fun p2 hp2 => ?_)
   refine lw_op rfl rfl rfl (ow_fieldAddr rfl rfl Tryd.underlying76 rfl (Tryd.sizeOf3 _) ?_)
   refine lw_op rfl rfl rfl (ow_load (R := RInt) rfl rfl (hp2.fld fld_Span_Lo) (Tryd.sizeOf3 _) (Tryd.isAgg3 _) fun v4 hv4 => ?_)
   obtain rfl := vint_eq hv4
   refine lw_op rfl rfl rfl (ow_lss rfl rfl rfl fun bb2 hbb2 => ?_)
   refine lw_nil (ew_then ?_)
   replace hb2 := cond_some hb2
   rcases hb2 with ⟨hc2, hb2⟩ | ⟨hc2, hb2⟩
   ·
    obtain rfl := hbb2.trans hc2
    refine cw_true rfl ?_
    refine cw_region (lw_op rfl rfl rfl (ow_move rfl rfl ?_))
    refine lw_op rfl rfl rfl (ow_move rfl rfl ?_)
    refine lw_op rfl rfl rfl (ow_move rfl rfl ?_)
    refine lw_op rfl rfl rfl (ow_move rfl rfl ?_)
    refine lw_op rfl rfl rfl (ow_indexSlice (R := RSpan) rfl rfl rfl (VRep.mono (hl1.trans hl2) h0) Tryd.underlying58 (Tryd.sizeOf76 _) hx1 fun p3 hp3 => ?_)
    refine lw_op rfl rfl rfl (ow_fieldAddr rfl rfl Tryd.underlying76 rfl (Tryd.sizeOf3 _) ?_)
    refine lw_op rfl rfl rfl (ow_load (R := RInt) rfl rfl (hp3.fld fld_Span_Lo) (Tryd.sizeOf3 _) (Tryd.isAgg3 _) fun v5 hv5 => ?_)
    obtain rfl := vint_eq hv5
    refine lw_op rfl rfl rfl (ow_sub rfl rfl rfl ?_)
    refine lw_op rfl rfl rfl (ow_build (v := .agg #[(.int .i64 k1), (.int .i64 (W (x1.Lo - 1)))]) rfl rfl (by kernel_rfl) ?_)
    have hw2 : VRep RSpan w2 M2 ({ Lo := k1, Hi := (W (x1.Lo - 1)) } : Span) (.agg #[(.int .i64 k1), (.int .i64 (W (x1.Lo - 1)))]) := shut_Span
    refine lw_op rfl rfl rfl (ow_buildSlice (R := RSpan) (xs := [({ Lo := k1, Hi := (W (x1.Lo - 1)) } : Span)]) (cs := #[(.int .i64 k1), (.int .i64 (W (x1.Lo - 1)))]) (e := 76) rfl rfl (by kernel_rfl) rfl rfl ⟨_, _, rfl, hw2.cells, rfl⟩ hC2 fun p4 w3 hw3 hb3 hl3 hC3 => ?_)
    have hr2 := hw1.no hb3
    replace hb2 := bind_some hb2
    obtain ⟨z1, hz1, hb2⟩ := hb2
    refine lw_op rfl rfl rfl (ow_append (R := RSpan) rfl rfl rfl rfl Tryd.underlying58 hi76 hz76 hs76 hy76 rfl rfl rfl rfl hr2 hw3 hz1 hC3 fun v6 w4 M3 hr3 hb4 hl4 hC4 hM2 hat2 => ?_)
    refine lw_op rfl rfl rfl (ow_assign rfl rfl ?_)
    refine lw_nil (ew_then (cw_region (lw_op rfl rfl rfl (ow_move rfl rfl ?_))))
    refine lw_op rfl rfl rfl (ow_move rfl rfl ?_)
    refine lw_op rfl rfl rfl (ow_indexSlice (R := RSpan) rfl rfl rfl (VRep.mono (((hl1.trans hl2).trans hl3).trans hl4) h0) Tryd.underlying58 (Tryd.sizeOf76 _) hx1 fun p5 hp5 => ?_)
    refine lw_op rfl rfl rfl (ow_fieldAddr rfl rfl Tryd.underlying76 rfl (Tryd.sizeOf3 _) ?_)
    refine lw_op rfl rfl rfl (ow_load (R := RInt) rfl rfl (hp5.fld fld_Span_Hi) (Tryd.sizeOf3 _) (Tryd.isAgg3 _) fun v7 hv7 => ?_)
    obtain rfl := vint_eq hv7
    refine lw_op rfl rfl rfl (ow_add rfl rfl rfl ?_)
    refine lw_op rfl rfl rfl (ow_assign rfl rfl ?_)
    refine lw_nil (ew_blockN ?_)
    refine ew_then (cw_region (lw_op rfl rfl rfl (ow_move rfl rfl ?_)))
    refine lw_op rfl rfl rfl (ow_add rfl rfl rfl ?_)
    refine lw_op rfl rfl rfl (ow_assign rfl rfl ?_)
    refine lw_nil (ew_nxt (z1, (W (x1.Hi + 1)), (W (k2 + 1))) hb2 fun a ha => ⟨M3, v6, ?_, ((hl2.trans hl3).trans hl4), hC4, hr3⟩)
    exact ha.sub ⟨rfl, rfl, rfl, rfl, rfl, trivial⟩
   ·
    obtain rfl := hbb2.trans hc2
    refine cw_false rfl ?_
    refine cw_skip (ew_then (cw_region (lw_op rfl rfl rfl (ow_move rfl rfl ?_))))
    refine lw_op rfl rfl rfl (ow_move rfl rfl ?_)
    refine lw_op rfl rfl rfl (ow_indexSlice (R := RSpan) rfl rfl rfl (VRep.mono (hl1.trans hl2) h0) Tryd.underlying58 (Tryd.sizeOf76 _) hx1 fun p6 hp6 => ?_)
    refine lw_op rfl rfl rfl (ow_fieldAddr rfl rfl Tryd.underlying76 rfl (Tryd.sizeOf3 _) ?_)
    refine lw_op rfl rfl rfl (ow_load (R := RInt) rfl rfl (hp6.fld fld_Span_Hi) (Tryd.sizeOf3 _) (Tryd.isAgg3 _) fun v8 hv8 => ?_)
    obtain rfl := vint_eq hv8
    refine lw_op rfl rfl rfl (ow_add rfl rfl rfl ?_)
    refine lw_op rfl rfl rfl (ow_assign rfl rfl ?_)
    refine lw_nil (ew_blockN ?_)
    refine ew_then (cw_region (lw_op rfl rfl rfl (ow_move rfl rfl ?_)))
    refine lw_op rfl rfl rfl (ow_add rfl rfl rfl ?_)
    refine lw_op rfl rfl rfl (ow_assign rfl rfl ?_)
    refine lw_nil (ew_nxt (y1, (W (x1.Hi + 1)), (W (k2 + 1))) hb2 fun a ha => ⟨M2, v1, ?_, hl2, hC2, hw1⟩)
    exact ha.sub ⟨rfl, rfl, rfl, rfl, rfl, trivial⟩
  ·
   obtain rfl := hbb1.trans hc1
   refine cw_false rfl ?_
   refine cw_exit ?_
   refine ew_thenX ?_
   refine ew_thenX ?_
   refine ew_blockX ?_
   refine ew_brk (y1, k1, k2) hb2 fun a ha => ⟨M2, v1, ?_, hl2, hC2, hw1⟩
   exact ha.sub ⟨rfl, rfl, rfl, rfl, rfl, trivial⟩
 ·
  rintro ⟨y2, k3, k4⟩ a w5 hlr2 ⟨M4, v9, hF2, hl5, hC5, hw4⟩
  subst hlr2
  refine ew_at (E := [(0, v0p), (1, (.int .i64 a_top)), (5, v9), (6, (.int .i64 k3)), (7, (.int .i64 k4))]) hF2 ?_
  refine ew_then (cw_seq (cw_seq (cw_region (lw_op rfl rfl rfl (ow_move rfl rfl ?_)))))
  refine lw_op rfl rfl rfl (ow_move rfl rfl ?_)
  refine lw_op rfl rfl rfl (ow_leq rfl rfl rfl fun bb3 hbb3 => ?_)
  refine lw_nil (ew_then ?_)
  replace h := cond_some h
  rcases h with ⟨hc3, h⟩ | ⟨hc3, h⟩
  ·
   obtain rfl := hbb3.trans hc3
   refine cw_true rfl ?_
   refine cw_region (lw_op rfl rfl rfl (ow_move rfl rfl ?_))
   refine lw_op rfl rfl rfl (ow_move rfl rfl ?_)
   refine lw_op rfl rfl rfl (ow_move rfl rfl ?_)
   refine lw_op rfl rfl rfl (ow_build (v := .agg #[(.int .i64 k3), (.int .i64 a_top)]) rfl rfl (by kernel_rfl) ?_)
   have hw5 : VRep RSpan w5 M4 ({ Lo := k3, Hi := a_top } : Span) (.agg #[(.int .i64 k3), (.int .i64 a_top)]) := shut_Span
   refine lw_op rfl rfl rfl (ow_buildSlice (R := RSpan) (xs := [({ Lo := k3, Hi := a_top } : Span)]) (cs := #[(.int .i64 k3), (.int .i64 a_top)]) (e := 76) rfl rfl (by kernel_rfl) rfl rfl ⟨_, _, rfl, hw5.cells, rfl⟩ hC5 fun p7 w6 hw6 hb5 hl6 hC6 => ?_)
   have hr4 := hw4.no hb5
   replace h := bind_some h
   obtain ⟨z2, hz2, h⟩ := h
   refine lw_op rfl rfl rfl (ow_append (R := RSpan) rfl rfl rfl rfl Tryd.underlying58 hi76 hz76 hs76 hy76 rfl rfl rfl rfl hr4 hw6 hz2 hC6 fun v12 w7 M5 hr5 hb6 hl7 hC7 hM3 hat3 => ?_)
   refine lw_op rfl rfl rfl (ow_assign rfl rfl ?_)
   refine lw_nil (ew_then (cw_seq (cw_region (lw_op rfl rfl rfl (ow_move rfl rfl ?_)))))
   refine lw_op rfl rfl rfl (ow_assign rfl rfl ?_)
   refine lw_nil (ew_then (cw_ret ?_))
   obtain rfl := Option.some.inj h
   exact ew_ret (res1 rfl (.tmp rfl)) ⟨_, rfl, (hr5.freezeBack hC7 hO), hC7.bx⟩
  ·
   obtain rfl := hbb3.trans hc3
   refine cw_false rfl ?_
   refine cw_skip (ew_then (cw_seq (cw_region (lw_op rfl rfl rfl (ow_move rfl rfl ?_)))))
   refine lw_op rfl rfl rfl (ow_assign rfl rfl ?_)
   refine lw_nil (ew_then (cw_ret ?_))
   obtain rfl := Option.some.inj h
   exact ew_ret (res1 rfl (.tmp rfl)) ⟨_, rfl, (hw4.freezeBack hC5 hO), hC5.bx⟩

theorem w_spec_TestSpans {w : World} {M : Nat → Prop} (hG : ARep (RArr 4 RShape) w M shapes ⟨0, 0, none⟩) (hO : ∀ b, M b → b < w.heap.size) {v0p : Value} {a_t : Test} (h0 : VRep RTest w M a_t v0p) {r : (List Span)} (h : F.spec_TestSpans a_t = some r) :
  Calls Tryd.prog 61 [v0p].toArray w fun e w' => ∃ v, e = .returned v ∧ VRep (RSlice RSpan) w' M r v ∧ BX No w w' := by
 have hC : Cx No w M w M := Cx.start hO (fun _ e => e.elim)
 refine walk (N := 22) Tryd.func61 rfl Tryd.ntmps61 rfl ?_
 refine cw_seq (cw_region (lw_op rfl rfl rfl (ow_box (R := RTest) rfl rfl h0 hC fun p1 w1 hp1 hb1 hl1 hC1 => ?_)))
 refine lw_op rfl rfl rfl (ow_assign rfl rfl ?_)
 refine lw_nil (ew_then (cw_seq (cw_seq (cw_region (lw_op rfl rfl rfl (ow_load (R := RTest) rfl rfl hp1 (Tryd.sizeOf31 _) (Tryd.isAgg31 _) fun v1 hv1 => ?_))))))
 replace h := bind_some h
 obtain ⟨x1, hx1, h⟩ := h
 refine lw_op rfl rfl rfl (ow_call rfl rfl Tryd.call64 (w_spec_TestValid (hG.mono hl1) hC1.old hv1 hx1) fun v2 w2 hv2 => ?_)
 obtain ⟨hv2, hb2⟩ := hv2
 have hl2 := Le.no M hb2
 have hC2 := hC1.no hb2
 obtain rfl := vbool_eq hv2
 refine lw_op rfl rfl rfl (ow_not rfl rfl ?_)
 refine lw_nil (ew_then ?_)
 replace h := cond_some h
 rcases h with ⟨hc1, h⟩ | ⟨hc1, h⟩
 ·
  subst hc1
  refine cw_false rfl ?_
  refine cw_skip (ew_then (cw_seq (cw_region (lw_op rfl rfl rfl (ow_fieldAddr rfl rfl Tryd.underlying31 rfl (Tryd.sizeOf3 _) ?_)))))
  refine lw_op rfl rfl rfl (ow_load (R := RInt) rfl rfl (ARep.mono hl2 (hp1.fld fld_Test_Lo)) (Tryd.sizeOf3 _) (Tryd.isAgg3 _) fun v3 hv3 => ?_)
  obtain rfl := vint_eq hv3
  refine lw_op rfl rfl rfl (ow_fieldAddr rfl rfl Tryd.underlying31 rfl (Tryd.sizeOf3 _) ?_)
  refine lw_op rfl rfl rfl (ow_load (R := RInt) rfl rfl (ARep.mono hl2 (hp1.fld fld_Test_Hi)) (Tryd.sizeOf3 _) (Tryd.isAgg3 _) fun v4 hv4 => ?_)
  obtain rfl := vint_eq hv4
  refine lw_op rfl rfl rfl (ow_build (v := .agg #[(.int .i64 a_t.Lo), (.int .i64 a_t.Hi)]) rfl rfl (by kernel_rfl) ?_)
  have hw1 : VRep RSpan w2 M ({ Lo := a_t.Lo, Hi := a_t.Hi } : Span) (.agg #[(.int .i64 a_t.Lo), (.int .i64 a_t.Hi)]) := shut_Span
  refine lw_op rfl rfl rfl (ow_buildSlice (R := RSpan) (xs := [({ Lo := a_t.Lo, Hi := a_t.Hi } : Span)]) (cs := #[(.int .i64 a_t.Lo), (.int .i64 a_t.Hi)]) (e := 76) rfl rfl (by kernel_rfl) rfl rfl ⟨_, _, rfl, hw1.cells, rfl⟩ hC2 fun p2 w3 hw2 hb3 hl3 hC3 => ?_)
  refine lw_op rfl rfl rfl (ow_assign rfl rfl ?_)
  refine lw_nil (ew_then (cw_seq (cw_seq (cw_region (lw_op rfl rfl rfl (ow_fieldAddr rfl rfl Tryd.underlying31 rfl (Tryd.sizeOf4 _) ?_))))))
  refine lw_op rfl rfl rfl (ow_load (R := RBool) rfl rfl (ARep.mono (hl2.trans hl3) (hp1.fld fld_Test_Not)) (Tryd.sizeOf4 _) (Tryd.isAgg4 _) fun v5 hv5 => ?_)
  obtain ⟨bb1, hbb1, rfl⟩ := vbool_ex hv5
  refine lw_nil (ew_then ?_)
  replace h := cond_some h
  rcases h with ⟨hc2, h⟩ | ⟨hc2, h⟩
  ·
   obtain rfl := hbb1.trans hc2
   refine cw_true rfl ?_
   refine cw_seq (cw_region (lw_op rfl rfl rfl (ow_move rfl rfl ?_)))
   refine lw_op rfl rfl rfl (ow_fieldAddr rfl rfl Tryd.underlying31 rfl (Tryd.sizeOf3 _) ?_)
   refine lw_op rfl rfl rfl (ow_load (R := RInt) rfl rfl (ARep.mono (hl2.trans hl3) (hp1.fld fld_Test_Field)) (Tryd.sizeOf3 _) (Tryd.isAgg3 _) fun v6 hv6 => ?_)
   obtain rfl := vint_eq hv6
   replace h := bind_some h
   obtain ⟨x2, hx2, h⟩ := h
   refine lw_op rfl rfl rfl (ow_call rfl rfl Tryd.call81 (w_spec_FieldTop (hG.mono ((hl1.trans hl2).trans hl3)) hC3.old hx2) fun v7 w4 hv7 => ?_)
   obtain ⟨hv7, hb4⟩ := hv7
   have hl4 := Le.no M hb4
   have hC4 := hC3.no hb4
   obtain rfl := vint_eq hv7
   replace h := bind_some h
   obtain ⟨x3, hx3, h⟩ := h
   refine lw_op rfl rfl rfl (ow_call rfl rfl Tryd.call97 (w_spec_l2Other (hG.mono (((hl1.trans hl2).trans hl3).trans hl4)) hC4.old (VRep.mono hl4 hw2) hx3) fun v8 w5 hv8 => ?_)
   obtain ⟨hv8, hb5⟩ := hv8
   have hl5 := Le.no M hb5
   have hC5 := hC4.no hb5
   refine lw_op rfl rfl rfl (ow_assign rfl rfl ?_)
   refine lw_nil (ew_then (cw_ret (ew_thenR ?_)))
   obtain rfl := Option.some.inj h
   exact ew_ret (res1 rfl (.tmp rfl)) ⟨_, rfl, (VRep.mono hC5.back hv8), hC5.bx⟩
  ·
   obtain rfl := hbb1.trans hc2
   refine cw_false rfl ?_
   refine cw_skip (ew_then (cw_seq (cw_region (lw_op rfl rfl rfl (ow_move rfl rfl ?_)))))
   refine lw_op rfl rfl rfl (ow_assign rfl rfl ?_)
   refine lw_nil (ew_then (cw_ret ?_))
   obtain rfl := Option.some.inj h
   exact ew_ret (res1 rfl (.tmp rfl)) ⟨_, rfl, (VRep.mono hC3.back hw2), hC3.bx⟩
 ·
  subst hc1
  refine cw_true rfl ?_
  refine cw_seq (cw_region (lw_op rfl rfl rfl (ow_buildSlice0I (R := RSpan) (e := 76) rfl (by kernel_rfl) hC2 fun p3 w6 hw3 hb6 hl6 hC6 => ?_)))
  refine lw_op rfl rfl rfl (ow_assign rfl rfl ?_)
  refine lw_nil (ew_then (cw_ret (ew_thenR ?_)))
  obtain rfl := Option.some.inj h
  exact ew_ret (res1 rfl (.tmp rfl)) ⟨_, rfl, (VRep.mono hC6.back hw3), hC6.bx⟩

theorem w_spec_TestsBox {w : World} {M : Nat → Prop} (hG : ARep (RArr 4 RShape) w M shapes ⟨0, 0, none⟩) (hO : ∀ b, M b → b < w.heap.size) {v0p : Value} {a_list : List Test} (h0 : VRep (RSlice RTest) w M a_list v0p) {r : Box} (h : F.spec_TestsBox a_list = some r) :
  Calls Tryd.prog 18 [v0p].toArray w fun e w' => ∃ v, e = .returned v ∧ VRep RBox w' M r v ∧ BX No w w' := by
 have hC : Cx No w M w M := Cx.start hO (fun _ e => e.elim)
 refine walk (N := 38) Tryd.func18 rfl Tryd.ntmps18 rfl ?_
 refine cw_seq (cw_region (lw_op rfl rfl rfl (ow_alloc rfl (Tryd.zeroValue27 _) hC fun g1 w1 hg1 hg2 ho1 hb1 hl1 hC1 => ?_)))
 have hm1 : (Add g1 M) g1 := .inl rfl
 refine lw_nil (ew_then (cw_seq (cw_seq (cw_region (lw_op rfl rfl rfl (ow_move rfl rfl ?_))))))
 replace h := bind_some h
 obtain ⟨x1, hx1, h⟩ := h
 refine lw_op rfl rfl rfl (ow_call rfl rfl Tryd.call26 (w_spec_TestsValid (hG.mono hl1) hC1.old (VRep.mono hl1 h0) hx1) fun v1 w2 hv1 => ?_)
 obtain ⟨hv1, hb2⟩ := hv1
 have hl2 := Le.no (Add g1 M) hb2
 have hC2 := hC1.no hb2
 have ho2 := ho1.no hb2
 obtain rfl := vbool_eq hv1
 refine lw_op rfl rfl rfl (ow_not rfl rfl ?_)
 refine lw_nil (ew_then ?_)
 replace h := cond_some h
 rcases h with ⟨hc1, h⟩ | ⟨hc1, h⟩
 ·
  subst hc1
  refine cw_false rfl ?_
  refine cw_skip (ew_then (cw_seq (cw_region ?_)))
  replace h := bind_some h
  obtain ⟨x2, hx2, h⟩ := h
  refine lw_op rfl rfl rfl (ow_call rfl rfl Tryd.call59 (wo_spec_BoxAll (hG.mono (hl1.trans hl2)) hC2.old hx2) fun v2 w3 hv2 => ?_)
  obtain ⟨⟨M1, v3, rfl, hr1, hk1⟩, hb3⟩ := hv2
  replace hr1 := hr1.base hC2.bx.size
  have hl3 := hk1.le
  have hC3 := hC2.trans hk1
  have ho3 := ho2.no hb3
  have hm2 := hk1.sup _ hm1
  obtain ⟨A1, c1, rfl⟩ := hr1.len
  refine lw_op rfl rfl rfl (ow_alloc rfl (Tryd.zeroValue27 _) hC3 fun g2 w4 hg3 hg4 ho4 hb4 hl4 hC4 => ?_)
  have hn1 := Nat.ne_of_lt (Nat.lt_of_lt_of_le ho3.lt hg3)
  have ho5 := ho3.no hb4
  have hm3 : (Add g2 M1) g1 := .inr hm2
  have hr2 := hr1.add hb4 hg3
  have hm4 : (Add g2 M1) g2 := .inl rfl
  refine lw_op0 rfl rfl (ow_store (X := No) (us := [(.slice A1 x2.Sides.length c1)]) (cs' := #[(.slice A1 x2.Sides.length c1)]) rfl rfl rfl rfl ho4 (Tryd.sizeOf27 _) rfl rfl rfl rfl hm4 (.inl hg4) rfl hC4 fun w5 ho6 hb5 hl5 hC5 => ?_)
  have ho7 := ho5.go hb5 (fun e => hn1 e)
  have hr3 := hr2.go hb5 (fun k hk e => (orow_ne hr2 ho4 (by decide)) (hk.trans (congrArg some e))) hl5 (fun _ h => h)
  refine lw_nil (ew_then (cw_seq (cw_seq (cw_region (lw_op rfl rfl rfl (ow_assign rfl rfl ?_))))))
  refine lw_nil (ew_then ?_)
  replace h := bind_some h
  obtain ⟨lr1, hlr1, h⟩ := h
  refine cw_for hlr1 (fun s a w' => ∃ (M' : Nat → Prop), Fits 38 [(0, v0p), (2, (.pointer (some ⟨g1, 0, none⟩))), (3, (.pointer (some ⟨g2, 0, none⟩))), (4, (.int .i64 s.1))] a ∧ Le w5 (Add g2 M1) w' M' ∧ Cx No w M w' M' ∧ OwnRow (RSlice RSpan) w.heap.size 58 w' M' s.2 (.slice A1 x2.Sides.length c1) ∧ Own w' g1 27 #[(.slice none 0 0)] ∧ M' g1 ∧ Own w' g2 27 #[(.slice A1 x2.Sides.length c1)] ∧ M' g2) ?_ ?_ ?_
  ·
   intro a ha
   exact ⟨(Add g2 M1), ha.sub ⟨rfl, rfl, rfl, rfl, trivial⟩, Le.refl _ _, hC5, hr3, ho7, hm3, ho6, hm4⟩
  ·
   rintro ⟨k1, y1⟩ a w6 sr1 ⟨M2, hF1, hl6, hC6, hw1, ho8, hm5, ho9, hm6⟩ hb6 hR1
   refine cw_at (E := [(0, v0p), (2, (.pointer (some ⟨g1, 0, none⟩))), (3, (.pointer (some ⟨g2, 0, none⟩))), (4, (.int .i64 k1))]) hF1 ?_
   refine cw_seq (cw_seq (cw_region (lw_op rfl rfl rfl (ow_move rfl rfl ?_))))
   refine lw_op rfl rfl rfl (ow_move rfl rfl ?_)
   refine lw_op rfl rfl rfl (ow_len rfl rfl (VRep.mono (((((hl1.trans hl2).trans hl3).trans hl4).trans hl5).trans hl6) h0) Tryd.underlying23 rfl ?_)
   refine lw_op rfl rfl rfl (ow_lss rfl rfl rfl fun bb1 hbb1 => ?_)
   refine lw_nil (ew_then ?_)
   replace hb6 := cond_some hb6
   rcases hb6 with ⟨hc2, hb6⟩ | ⟨hc2, hb6⟩
   ·
    obtain rfl := hbb1.trans hc2
    refine cw_true rfl ?_
    refine cw_skip (ew_then (cw_seq (cw_block ?_)))
    refine cw_seq (cw_region (lw_op rfl rfl rfl (ow_move rfl rfl ?_)))
    refine lw_op rfl rfl rfl (ow_move rfl rfl ?_)
    replace hb6 := bind_some hb6
    obtain ⟨x3, hx3, hb6⟩ := hb6
    refine lw_op rfl rfl rfl (ow_indexSlice (R := RTest) rfl rfl rfl (VRep.mono (((((hl1.trans hl2).trans hl3).trans hl4).trans hl5).trans hl6) h0) Tryd.underlying23 (Tryd.sizeOf31 _) hx3 fun p1 hp1 => ?_)
    refine lw_op rfl rfl rfl (ow_fieldAddr rfl rfl Tryd.underlying31 rfl (Tryd.sizeOf3 _) ?_)
    refine lw_op rfl rfl rfl (ow_load (R := RInt) rfl rfl (hp1.fld fld_Test_Field) (Tryd.sizeOf3 _) (Tryd.isAgg3 _) fun v6 hv6 => ?_)
    obtain rfl := vint_eq hv6
    refine lw_op rfl rfl rfl (ow_assign rfl rfl ?_)
    refine lw_nil (ew_then ?_)
    replace hb6 := bind_some hb6
    obtain ⟨x4, hx4, hb6⟩ := hb6
    replace hb6 := bind_some hb6
    obtain ⟨x5, hx5, hb6⟩ := hb6
    replace hb6 := bind_some hb6
    obtain ⟨x6, hx6, hb6⟩ := hb6
    refine cw_sub (E' := [(0, v0p), (2, (.pointer (some ⟨g1, 0, none⟩))), (3, (.pointer (some ⟨g2, 0, none⟩))), (4, (.int .i64 k1)), (5, (.int .i64 x3.Field))]) ⟨rfl, rfl, rfl, rfl, rfl, trivial⟩ ?_
    refine cw_drawQ 14 [PEq (.pointer (some ⟨g2, 0, none⟩)), PEq (.slice A1 x2.Sides.length c1), PEq (.int .i64 x3.Field), PEq (.pointer (some ⟨g2, 0, none⟩)), PEq (.slice A1 x2.Sides.length c1), PEq (.int .i64 x3.Field), PEq (.pointer (some ⟨blk (.slice A1 x2.Sides.length c1), (x3.Field : Int).toNat * (RSlice RSpan).size + 0, none⟩)), PV (RSlice RSpan) M2 x4, PV (RSlice RTest) M2 a_list, PEq (.int .i64 k1), PA RTest M2 x3, PV RTest M2 x3, PV (RSlice RSpan) M2 x5, PV (RSlice RSpan) M2 x6] (by kernel_rfl) rfl (by kernel_rfl) ⟨PEq.mono _, PEq.mono _, PEq.mono _, PEq.mono _, PEq.mono _, PEq.mono _, PEq.mono _, PV.mono _ _ _, PV.mono _ _ _, PEq.mono _, PA.mono _ _ _, PV.mono _ _ _, PV.mono _ _ _, PV.mono _ _ _, trivial⟩ ⟨?_, ?_, ?_, ?_, ?_, ?_, ?_, ?_, ?_, ?_, ?_, ?_, ?_, ?_, trivial⟩ ?_
    ·
     intro w9 D hS1 hd1
     have hl9 := Le.no M2 hS1
     have hC9 := hC6.no hS1
     have ho14 := ho8.no hS1
     have ho15 := ho9.no hS1
     have hr6 := hw1.no hS1
     refine dg_sub (E' := [(3, (.pointer (some ⟨g2, 0, none⟩)))]) ⟨rfl, trivial⟩ ?_
     refine dg_plain rfl (ow_fieldAddr rfl rfl Tryd.underlying27 rfl (Tryd.sizeOf25 _) ?_)
     exact ⟨BX.refl _ _, rfl⟩
    ·
     intro w10 D hS2 hd2
     have hl10 := Le.no M2 hS2
     have hC10 := hC6.no hS2
     have ho16 := ho8.no hS2
     have ho17 := ho9.no hS2
     have hr7 := hw1.no hS2
     have hd2 : PEq (.pointer (some ⟨g2, 0, none⟩)) (D 0) w10 ∧ True := hd2
     obtain ⟨d1, -⟩ := hd2
     refine dg_sub (E' := [(22, (.pointer (some ⟨g2, 0, none⟩)))]) ⟨(congrArg some d1), trivial⟩ ?_
     refine dg_plain rfl (ow_loadOwn1 rfl rfl rfl ho17 (Tryd.isAgg25 _) rfl ?_)
     exact ⟨BX.refl _ _, rfl⟩
    ·
     intro w11 D hS3 hd3
     have hl11 := Le.no M2 hS3
     have hC11 := hC6.no hS3
     have ho18 := ho8.no hS3
     have ho19 := ho9.no hS3
     have hr8 := hw1.no hS3
     refine dg_sub (E' := [(5, (.int .i64 x3.Field))]) ⟨rfl, trivial⟩ ?_
     refine dg_plain rfl (ow_move rfl rfl ?_)
     exact ⟨BX.refl _ _, rfl⟩
    ·
     intro w12 D hS4 hd4
     have hl12 := Le.no M2 hS4
     have hC12 := hC6.no hS4
     have ho20 := ho8.no hS4
     have ho21 := ho9.no hS4
     have hr9 := hw1.no hS4
     refine dg_sub (E' := [(3, (.pointer (some ⟨g2, 0, none⟩)))]) ⟨rfl, trivial⟩ ?_
     refine dg_plain rfl (ow_fieldAddr rfl rfl Tryd.underlying27 rfl (Tryd.sizeOf25 _) ?_)
     exact ⟨BX.refl _ _, rfl⟩
    ·
     intro w13 D hS5 hd5
     have hl13 := Le.no M2 hS5
     have hC13 := hC6.no hS5
     have ho22 := ho8.no hS5
     have ho23 := ho9.no hS5
     have hr10 := hw1.no hS5
     have hd5 : PEq (.pointer (some ⟨g2, 0, none⟩)) (D 3) w13 ∧ True := hd5
     obtain ⟨d2, -⟩ := hd5
     refine dg_sub (E' := [(25, (.pointer (some ⟨g2, 0, none⟩)))]) ⟨(congrArg some d2), trivial⟩ ?_
     refine dg_plain rfl (ow_loadOwn1 rfl rfl rfl ho23 (Tryd.isAgg25 _) rfl ?_)
     exact ⟨BX.refl _ _, rfl⟩
    ·
     intro w14 D hS6 hd6
     have hl14 := Le.no M2 hS6
     have hC14 := hC6.no hS6
     have ho24 := ho8.no hS6
     have ho25 := ho9.no hS6
     have hr11 := hw1.no hS6
     refine dg_sub (E' := [(5, (.int .i64 x3.Field))]) ⟨rfl, trivial⟩ ?_
     refine dg_plain rfl (ow_move rfl rfl ?_)
     exact ⟨BX.refl _ _, rfl⟩
    ·
     intro w15 D hS7 hd7
     have hl15 := Le.no M2 hS7
     have hC15 := hC6.no hS7
     have ho26 := ho8.no hS7
     have ho27 := ho9.no hS7
     have hr12 := hw1.no hS7
     have hd7 : PEq (.slice A1 x2.Sides.length c1) (D 4) w15 ∧ PEq (.int .i64 x3.Field) (D 5) w15 ∧ True := hd7
     obtain ⟨d3, d4, -⟩ := hd7
     refine dg_sub (E' := [(26, (.slice A1 x2.Sides.length c1)), (27, (.int .i64 x3.Field))]) ⟨(congrArg some d3), (congrArg some d4), trivial⟩ ?_
     refine dg_plain rfl (ow_indexRow (R := (RSlice RSpan)) rfl rfl rfl hr12 Tryd.underlying25 (Tryd.sizeOf58 _) hx4 ?_)
     exact ⟨BX.refl _ _, rfl⟩
    ·
     intro w16 D hS8 hd8
     have hl16 := Le.no M2 hS8
     have hC16 := hC6.no hS8
     have ho28 := ho8.no hS8
     have ho29 := ho9.no hS8
     have hr13 := hw1.no hS8
     have hd8 : PEq (.pointer (some ⟨blk (.slice A1 x2.Sides.length c1), (x3.Field : Int).toNat * (RSlice RSpan).size + 0, none⟩)) (D 6) w16 ∧ True := hd8
     obtain ⟨d5, -⟩ := hd8
     refine dg_sub (E' := [(28, (.pointer (some ⟨blk (.slice A1 x2.Sides.length c1), (x3.Field : Int).toNat * (RSlice RSpan).size + 0, none⟩)))]) ⟨(congrArg some d5), trivial⟩ ?_
     refine dg_plain rfl (ow_loadElRow (R := (RSlice RSpan)) (S := (RSlice RSpan)) rfl rfl rfl hr13 (orow_blk hr13 hx4) hx4 (Fld.whole (RSlice RSpan)) (Tryd.sizeOf58 _) (Tryd.isAgg58 _) fun v11 hv11 => ?_)
     exact ⟨BX.refl _ _, hv11⟩
    ·
     intro w17 D hS9 hd9
     have hl17 := Le.no M2 hS9
     have hC17 := hC6.no hS9
     have ho30 := ho8.no hS9
     have ho31 := ho9.no hS9
     have hr14 := hw1.no hS9
     refine dg_sub (E' := [(0, v0p)]) ⟨rfl, trivial⟩ ?_
     refine dg_plain rfl (ow_move rfl rfl ?_)
     exact ⟨BX.refl _ _, (VRep.mono ((((((hl1.trans hl2).trans hl3).trans hl4).trans hl5).trans hl6).trans hl17) h0)⟩
    ·
     intro w18 D hS10 hd10
     have hl18 := Le.no M2 hS10
     have hC18 := hC6.no hS10
     have ho32 := ho8.no hS10
     have ho33 := ho9.no hS10
     have hr15 := hw1.no hS10
     refine dg_sub (E' := [(4, (.int .i64 k1))]) ⟨rfl, trivial⟩ ?_
     refine dg_plain rfl (ow_move rfl rfl ?_)
     exact ⟨BX.refl _ _, rfl⟩
    ·
     intro w19 D hS11 hd11
     have hl19 := Le.no M2 hS11
     have hC19 := hC6.no hS11
     have ho34 := ho8.no hS11
     have ho35 := ho9.no hS11
     have hr16 := hw1.no hS11
     have hd11 : PV (RSlice RTest) M2 a_list (D 8) w19 ∧ PEq (.int .i64 k1) (D 9) w19 ∧ True := hd11
     obtain ⟨d6, d7, -⟩ := hd11
     obtain ⟨v12, hq1⟩ : ∃ v, (D 8) = v := ⟨_, rfl⟩
     rw [hq1] at d6
     refine dg_sub (E' := [(30, v12), (31, (.int .i64 k1))]) ⟨(congrArg some hq1), (congrArg some d7), trivial⟩ ?_
     refine dg_plain rfl (ow_indexSlice (R := RTest) rfl rfl rfl d6 Tryd.underlying23 (Tryd.sizeOf31 _) hx3 fun p3 hp3 => ?_)
     exact ⟨BX.refl _ _, ⟨_, rfl, hp3⟩⟩
    ·
     intro w20 D hS12 hd12
     have hl20 := Le.no M2 hS12
     have hC20 := hC6.no hS12
     have ho36 := ho8.no hS12
     have ho37 := ho9.no hS12
     have hr17 := hw1.no hS12
     have hd12 : PA RTest M2 x3 (D 10) w20 ∧ True := hd12
     obtain ⟨d8, -⟩ := hd12
     obtain ⟨p4, e1, ha1⟩ := d8
     refine dg_sub (E' := [(32, (.pointer (some p4)))]) ⟨(congrArg some e1), trivial⟩ ?_
     refine dg_plain rfl (ow_load (R := RTest) rfl rfl ha1 (Tryd.sizeOf31 _) (Tryd.isAgg31 _) fun v13 hv13 => ?_)
     exact ⟨BX.refl _ _, hv13⟩
    ·
     intro w21 D hS13 hd13
     have hl21 := Le.no M2 hS13
     have hC21 := hC6.no hS13
     have ho38 := ho8.no hS13
     have ho39 := ho9.no hS13
     have hr18 := hw1.no hS13
     have hd13 : PV RTest M2 x3 (D 11) w21 ∧ True := hd13
     obtain ⟨d9, -⟩ := hd13
     obtain ⟨v14, hq2⟩ : ∃ v, (D 11) = v := ⟨_, rfl⟩
     rw [hq2] at d9
     refine dg_sub (E' := [(33, v14)]) ⟨(congrArg some hq2), trivial⟩ ?_
     refine dg_plain rfl (ow_call rfl rfl Tryd.call61 (w_spec_TestSpans (hG.mono ((((((hl1.trans hl2).trans hl3).trans hl4).trans hl5).trans hl6).trans hl21)) hC21.old d9 hx5) fun v15 w22 hv15 => ?_)
     obtain ⟨hv15, hb9⟩ := hv15
     have hl22 := Le.no M2 hb9
     have hC22 := hC21.no hb9
     have ho40 := ho38.no hb9
     have ho41 := ho39.no hb9
     have hr19 := hr18.no hb9
     exact ⟨hb9, hv15⟩
    ·
     intro w23 D hS14 hd14
     have hl23 := Le.no M2 hS14
     have hC23 := hC6.no hS14
     have ho42 := ho8.no hS14
     have ho43 := ho9.no hS14
     have hr20 := hw1.no hS14
     have hd14 : PV (RSlice RSpan) M2 x4 (D 7) w23 ∧ PV (RSlice RSpan) M2 x5 (D 12) w23 ∧ PV (RSlice RSpan) M2 x5 (D 12) w23 ∧ True := hd14
     obtain ⟨d10, d11, d12, -⟩ := hd14
     obtain ⟨v16, hq3⟩ : ∃ v, (D 7) = v := ⟨_, rfl⟩
     rw [hq3] at d10
     obtain ⟨v17, hq4⟩ : ∃ v, (D 12) = v := ⟨_, rfl⟩
     rw [hq4] at d11
     refine dg_sub (E' := [(29, v16), (34, v17)]) ⟨(congrArg some hq3), (congrArg some hq4), trivial⟩ ?_
     refine dg_plain rfl (ow_call rfl rfl Tryd.call60 (w_spec_l2Meet (hG.mono ((((((hl1.trans hl2).trans hl3).trans hl4).trans hl5).trans hl6).trans hl23)) hC23.old d10 d11 hx6) fun v18 w24 hv18 => ?_)
     obtain ⟨hv18, hb10⟩ := hv18
     have hl24 := Le.no M2 hb10
     have hC24 := hC23.no hb10
     have ho44 := ho42.no hb10
     have ho45 := ho43.no hb10
     have hr21 := hr20.no hb10
     exact ⟨hb10, hv18⟩
    ·
     intro w25 D hS15 hd15
     have hd15 : PEq (.pointer (some ⟨g2, 0, none⟩)) (D 0) w25 ∧ PEq (.slice A1 x2.Sides.length c1) (D 1) w25 ∧ PEq (.int .i64 x3.Field) (D 2) w25 ∧ PEq (.pointer (some ⟨g2, 0, none⟩)) (D 3) w25 ∧ PEq (.slice A1 x2.Sides.length c1) (D 4) w25 ∧ PEq (.int .i64 x3.Field) (D 5) w25 ∧ PEq (.pointer (some ⟨blk (.slice A1 x2.Sides.length c1), (x3.Field : Int).toNat * (RSlice RSpan).size + 0, none⟩)) (D 6) w25 ∧ PV (RSlice RSpan) M2 x4 (D 7) w25 ∧ PV (RSlice RTest) M2 a_list (D 8) w25 ∧ PEq (.int .i64 k1) (D 9) w25 ∧ PA RTest M2 x3 (D 10) w25 ∧ PV RTest M2 x3 (D 11) w25 ∧ PV (RSlice RSpan) M2 x5 (D 12) w25 ∧ PV (RSlice RSpan) M2 x6 (D 13) w25 ∧ True := hd15
     obtain ⟨-, d14, d15, -, -, -, -, -, -, -, -, -, -, d26, -⟩ := hd15
     have hl25 := Le.no M2 hS15
     have hC25 := hC6.no hS15
     have ho46 := ho8.no hS15
     have ho47 := ho9.no hS15
     have hr22 := hw1.no hS15
     obtain ⟨v19, hq5⟩ : ∃ v, (D 13) = v := ⟨_, rfl⟩
     rw [hq5] at d26
     refine lw_sub (E' := [(23, (.slice A1 x2.Sides.length c1)), (24, (.int .i64 x3.Field)), (35, v19), (0, v0p), (2, (.pointer (some ⟨g1, 0, none⟩))), (3, (.pointer (some ⟨g2, 0, none⟩))), (4, (.int .i64 k1)), (5, (.int .i64 x3.Field))]) ⟨(congrArg some d14), (congrArg some d15), (congrArg some hq5), rfl, rfl, rfl, rfl, rfl, trivial⟩ ?_
     refine lw_op rfl rfl rfl (ow_indexRow (R := (RSlice RSpan)) rfl rfl rfl hr22 Tryd.underlying25 (Tryd.sizeOf58 _) hx4 ?_)
     refine lw_op0 rfl rfl (ow_storeElRow (X := No) (R := (RSlice RSpan)) (S := (RSlice RSpan)) rfl rfl rfl rfl hr22 (orow_blk hr22 hx4) hx4 (FldSet.whole (RSlice RSpan)) (Tryd.sizeOf58 _) d26 (Nat.le_refl _) hC25 fun w26 ho48 hb11 hl26 hC26 => ?_)
     have ho49 := ho46.go hb11 (fun e => (orow_ne hr22 ho46 (by decide)) (by rw [orow_blk hr22 hx4]; exact congrArg some e.symm))
     have ho50 := ho47.go hb11 (fun e => (orow_ne hr22 ho47 (by decide)) (by rw [orow_blk hr22 hx4]; exact congrArg some e.symm))
     refine lw_nil (ew_blockN ?_)
     refine ew_then (cw_region (lw_op rfl rfl rfl (ow_move rfl rfl ?_)))
     refine lw_op rfl rfl rfl (ow_add rfl rfl rfl ?_)
     refine lw_op rfl rfl rfl (ow_assign rfl rfl ?_)
     refine lw_nil (ew_nxt ((W (k1 + 1)), (List.set y1 (x3.Field : Int).toNat x6)) hb6 fun a ha => ⟨M2, ?_, ((hl6.trans hl25).trans hl26), hC26, ho48, ho49, hm5, ho50, hm6⟩)
     exact ha.sub ⟨rfl, rfl, rfl, rfl, trivial⟩
   ·
    obtain rfl := hbb1.trans hc2
    refine cw_false rfl ?_
    refine cw_exit ?_
    refine ew_thenX ?_
    refine ew_thenX ?_
    refine ew_blockX ?_
    refine ew_brk (k1, y1) hb6 fun a ha => ⟨M2, ?_, hl6, hC6, hw1, ho8, hm5, ho9, hm6⟩
    exact ha.sub ⟨rfl, rfl, rfl, rfl, trivial⟩
  ·
   rintro ⟨k2, y2⟩ a w27 hlr2 ⟨M3, hF2, hl27, hC27, hw2, ho51, hm7, ho52, hm8⟩
   subst hlr2
   refine ew_at (E := [(0, v0p), (2, (.pointer (some ⟨g1, 0, none⟩))), (3, (.pointer (some ⟨g2, 0, none⟩))), (4, (.int .i64 k2))]) hF2 ?_
   refine ew_then (cw_seq (cw_region (lw_op rfl rfl rfl (ow_loadOwnA rfl rfl rfl ho52 (Tryd.isAgg27 _) (Tryd.sizeOf27 _) rfl ?_))))
   have hw3 := hw2.freezeDel
   have hC28 := hw2.cxDel hC27 (fun _ e => e.elim) hO
   have hl28 := Le.del w27 M3 (.slice A1 x2.Sides.length c1)
   have hm9 : (Del (.slice A1 x2.Sides.length c1) M3) g1 := ⟨hm7, fun e => (orow_ne hw2 ho51 (by decide)) e⟩
   have hm10 : (Del (.slice A1 x2.Sides.length c1) M3) g2 := ⟨hm8, fun e => (orow_ne hw2 ho52 (by decide)) e⟩
   have hw4 : VRep RBox w27 (Del (.slice A1 x2.Sides.length c1) M3) ({ Sides := y2 } : Box) (.agg #[(.slice A1 x2.Sides.length c1)]) := shut_Box hw3
   refine lw_op0 rfl rfl (ow_store (X := No) (us := [(.slice A1 x2.Sides.length c1)]) (cs' := #[(.slice A1 x2.Sides.length c1)]) rfl rfl rfl rfl ho51 (Tryd.sizeOf27 _) rfl rfl rfl rfl hm9 (.inl hg2) rfl hC28 fun w28 ho53 hb12 hl29 hC29 => ?_)
   have ho54 := ho52.go hb12 (fun e => hn1 e.symm)
   refine lw_nil (ew_then (cw_ret ?_))
   have hw5 : VRep RBox w28 (Del (.slice A1 x2.Sides.length c1) M3) ({ Sides := y2 } : Box) (.agg #[(.slice A1 x2.Sides.length c1)]) := shut_Box (VRep.mono hl29 hw3)
   obtain rfl := Option.some.inj h
   exact ew_ret (res1 rfl (.cell rfl (own_loadVarA ho53 (Tryd.isAgg27 _) (Tryd.sizeOf27 _) rfl))) ⟨_, rfl, (hw5.mono hC29.back), hC29.bx⟩
 ·
  subst hc1
  refine cw_true rfl ?_
  refine cw_seq (cw_region (lw_op rfl rfl rfl (ow_build (v := .agg #[(.slice none 0 0)]) rfl rfl (by kernel_rfl) ?_)))
  have hw6 : VRep RBox w2 (Add g1 M) ({ Sides := ([] : List (List Span)) } : Box) (.agg #[(.slice none 0 0)]) := shut_Box (vslice_nil (R := (RSlice RSpan)) (w := w2) (M := (Add g1 M)))
  refine lw_op0 rfl rfl (ow_store (X := No) (us := [(.slice none 0 0)]) (cs' := #[(.slice none 0 0)]) rfl rfl rfl rfl ho2 (Tryd.sizeOf27 _) rfl rfl rfl rfl hm1 (.inl hg2) rfl hC2 fun w29 ho55 hb13 hl30 hC30 => ?_)
  refine lw_nil (ew_then (cw_ret (ew_thenR ?_)))
  have hw7 : VRep RBox w29 (Add g1 M) ({ Sides := ([] : List (List Span)) } : Box) (.agg #[(.slice none 0 0)]) := shut_Box (VRep.mono hl30 (vslice_nil (R := (RSlice RSpan)) (w := w2) (M := (Add g1 M))))
  obtain rfl := Option.some.inj h
  exact ew_ret (res1 rfl (.cell rfl (own_loadVarA ho55 (Tryd.isAgg27 _) (Tryd.sizeOf27 _) rfl))) ⟨_, rfl, (hw7.mono hC30.back), hC30.bx⟩

theorem wo_spec_TestsBox {w : World} {M : Nat → Prop} (hG : ARep (RArr 4 RShape) w M shapes ⟨0, 0, none⟩) (hO : ∀ b, M b → b < w.heap.size) {v0p : Value} {a_list : List Test} (h0 : VRep (RSlice RTest) w M a_list v0p) {r : Box} (h : F.spec_TestsBox a_list = some r) :
  Calls Tryd.prog 18 [v0p].toArray w fun e w' => ∃ v, e = .returned v ∧ (∃ M' u, v = .agg #[u] ∧ OwnRow (RSlice RSpan) w.heap.size 58 w' M' r.Sides u ∧ Cx No w M w' M') ∧ BX No w w' := by
 have hC : Cx No w M w M := Cx.start hO (fun _ e => e.elim)
 refine walk (N := 38) Tryd.func18 rfl Tryd.ntmps18 rfl ?_
 refine cw_seq (cw_region (lw_op rfl rfl rfl (ow_alloc rfl (Tryd.zeroValue27 _) hC fun g1 w1 hg1 hg2 ho1 hb1 hl1 hC1 => ?_)))
 have hm1 : (Add g1 M) g1 := .inl rfl
 refine lw_nil (ew_then (cw_seq (cw_seq (cw_region (lw_op rfl rfl rfl (ow_move rfl rfl ?_))))))
 replace h := bind_some h
 obtain ⟨x1, hx1, h⟩ := h
 refine lw_op rfl rfl rfl (ow_call rfl rfl Tryd.call26 (w_spec_TestsValid (hG.mono hl1) hC1.old (VRep.mono hl1 h0) hx1) fun v1 w2 hv1 => ?_)
 obtain ⟨hv1, hb2⟩ := hv1
 have hl2 := Le.no (Add g1 M) hb2
 have hC2 := hC1.no hb2
 have ho2 := ho1.no hb2
 obtain rfl := vbool_eq hv1
 refine lw_op rfl rfl rfl (ow_not rfl rfl ?_)
 refine lw_nil (ew_then ?_)
 replace h := cond_some h
 rcases h with ⟨hc1, h⟩ | ⟨hc1, h⟩
 ·
  subst hc1
  refine cw_false rfl ?_
  refine cw_skip (ew_then (cw_seq (cw_region ?_)))
  replace h := bind_some h
  obtain ⟨x2, hx2, h⟩ := h
  refine lw_op rfl rfl rfl (ow_call rfl rfl Tryd.call59 (wo_spec_BoxAll (hG.mono (hl1.trans hl2)) hC2.old hx2) fun v2 w3 hv2 => ?_)
  obtain ⟨⟨M1, v3, rfl, hr1, hk1⟩, hb3⟩ := hv2
  replace hr1 := hr1.base hC2.bx.size
  have hl3 := hk1.le
  have hC3 := hC2.trans hk1
  have ho3 := ho2.no hb3
  have hm2 := hk1.sup _ hm1
  obtain ⟨A1, c1, rfl⟩ := hr1.len
  refine lw_op rfl rfl rfl (ow_alloc rfl (Tryd.zeroValue27 _) hC3 fun g2 w4 hg3 hg4 ho4 hb4 hl4 hC4 => ?_)
  have hn1 := Nat.ne_of_lt (Nat.lt_of_lt_of_le ho3.lt hg3)
  have ho5 := ho3.no hb4
  have hm3 : (Add g2 M1) g1 := .inr hm2
  have hr2 := hr1.add hb4 hg3
  have hm4 : (Add g2 M1) g2 := .inl rfl
  refine lw_op0 rfl rfl (ow_store (X := No) (us := [(.slice A1 x2.Sides.length c1)]) (cs' := #[(.slice A1 x2.Sides.length c1)]) rfl rfl rfl rfl ho4 (Tryd.sizeOf27 _) rfl rfl rfl rfl hm4 (.inl hg4) rfl hC4 fun w5 ho6 hb5 hl5 hC5 => ?_)
  have ho7 := ho5.go hb5 (fun e => hn1 e)
  have hr3 := hr2.go hb5 (fun k hk e => (orow_ne hr2 ho4 (by decide)) (hk.trans (congrArg some e))) hl5 (fun _ h => h)
  refine lw_nil (ew_then (cw_seq (cw_seq (cw_region (lw_op rfl rfl rfl (ow_assign rfl rfl ?_))))))
  refine lw_nil (ew_then ?_)
  replace h := bind_some h
  obtain ⟨lr1, hlr1, h⟩ := h
  refine cw_for hlr1 (fun s a w' => ∃ (M' : Nat → Prop), Fits 38 [(0, v0p), (2, (.pointer (some ⟨g1, 0, none⟩))), (3, (.pointer (some ⟨g2, 0, none⟩))), (4, (.int .i64 s.1))] a ∧ Le w5 (Add g2 M1) w' M' ∧ Cx No w M w' M' ∧ OwnRow (RSlice RSpan) w.heap.size 58 w' M' s.2 (.slice A1 x2.Sides.length c1) ∧ Own w' g1 27 #[(.slice none 0 0)] ∧ M' g1 ∧ Own w' g2 27 #[(.slice A1 x2.Sides.length c1)] ∧ M' g2) ?_ ?_ ?_
  ·
   intro a ha
   exact ⟨(Add g2 M1), ha.sub ⟨rfl, rfl, rfl, rfl, trivial⟩, Le.refl _ _, hC5, hr3, ho7, hm3, ho6, hm4⟩
  ·
   rintro ⟨k1, y1⟩ a w6 sr1 ⟨M2, hF1, hl6, hC6, hw1, ho8, hm5, ho9, hm6⟩ hb6 hR1
   refine cw_at (E := [(0, v0p), (2, (.pointer (some ⟨g1, 0, none⟩))), (3, (.pointer (some ⟨g2, 0, none⟩))), (4, (.int .i64 k1))]) hF1 ?_
   refine cw_seq (cw_seq (cw_region (lw_op rfl rfl rfl (ow_move rfl rfl ?_))))
   refine lw_op rfl rfl rfl (ow_move rfl rfl ?_)
   refine lw_op rfl rfl rfl (ow_len rfl rfl (VRep.mono (((((hl1.trans hl2).trans hl3).trans hl4).trans hl5).trans hl6) h0) Tryd.underlying23 rfl ?_)
   refine lw_op rfl rfl rfl (ow_lss rfl rfl rfl fun bb1 hbb1 => ?_)
   refine lw_nil (ew_then ?_)
   replace hb6 := cond_some hb6
   rcases hb6 with ⟨hc2, hb6⟩ | ⟨hc2, hb6⟩
   ·
    obtain rfl := hbb1.trans hc2
    refine cw_true rfl ?_
    refine cw_skip (ew_then (cw_seq (cw_block ?_)))
    refine cw_seq (cw_region (lw_op rfl rfl rfl (ow_move rfl rfl ?_)))
    refine lw_op rfl rfl rfl (ow_move rfl rfl ?_)
    replace hb6 := bind_some hb6
    obtain ⟨x3, hx3, hb6⟩ := hb6
    refine lw_op rfl rfl rfl (ow_indexSlice (R := RTest) rfl rfl rfl (VRep.mono (((((hl1.trans hl2).trans hl3).trans hl4).trans hl5).trans hl6) h0) Tryd.underlying23 (Tryd.sizeOf31 _) hx3 fun p1 hp1 => ?_)
    refine lw_op rfl rfl rfl (ow_fieldAddr rfl rfl Tryd.underlying31 rfl (Tryd.sizeOf3 _) ?_)
    refine lw_op rfl rfl rfl (ow_load (R := RInt) rfl rfl (hp1.fld fld_Test_Field) (Tryd.sizeOf3 _) (Tryd.isAgg3 _) fun v6 hv6 => ?_)
    obtain rfl := vint_eq hv6
    refine lw_op rfl rfl rfl (ow_assign rfl rfl ?_)
    refine lw_nil (ew_then ?_)
    replace hb6 := bind_some hb6
    obtain ⟨x4, hx4, hb6⟩ := hb6
    replace hb6 := bind_some hb6
    obtain ⟨x5, hx5, hb6⟩ := hb6
    replace hb6 := bind_some hb6
    obtain ⟨x6, hx6, hb6⟩ := hb6
    refine cw_sub (E' := [(0, v0p), (2, (.pointer (some ⟨g1, 0, none⟩))), (3, (.pointer (some ⟨g2, 0, none⟩))), (4, (.int .i64 k1)), (5, (.int .i64 x3.Field))]) ⟨rfl, rfl, rfl, rfl, rfl, trivial⟩ ?_
    refine cw_drawQ 14 [PEq (.pointer (some ⟨g2, 0, none⟩)), PEq (.slice A1 x2.Sides.length c1), PEq (.int .i64 x3.Field), PEq (.pointer (some ⟨g2, 0, none⟩)), PEq (.slice A1 x2.Sides.length c1), PEq (.int .i64 x3.Field), PEq (.pointer (some ⟨blk (.slice A1 x2.Sides.length c1), (x3.Field : Int).toNat * (RSlice RSpan).size + 0, none⟩)), PV (RSlice RSpan) M2 x4, PV (RSlice RTest) M2 a_list, PEq (.int .i64 k1), PA RTest M2 x3, PV RTest M2 x3, PV (RSlice RSpan) M2 x5, PV (RSlice RSpan) M2 x6] (by kernel_rfl) rfl (by kernel_rfl) ⟨PEq.mono _, PEq.mono _, PEq.mono _, PEq.mono _, PEq.mono _, PEq.mono _, PEq.mono _, PV.mono _ _ _, PV.mono _ _ _, PEq.mono _, PA.mono _ _ _, PV.mono _ _ _, PV.mono _ _ _, PV.mono _ _ _, trivial⟩ ⟨?_, ?_, ?_, ?_, ?_, ?_, ?_, ?_, ?_, ?_, ?_, ?_, ?_, ?_, trivial⟩ ?_
    ·
     intro w9 D hS1 hd1
     have hl9 := Le.no M2 hS1
     have hC9 := hC6.no hS1
     have ho14 := ho8.no hS1
     have ho15 := ho9.no hS1
     have hr6 := hw1.no hS1
     refine dg_sub (E' := [(3, (.pointer (some ⟨g2, 0, none⟩)))]) ⟨rfl, trivial⟩ ?_
     refine dg_plain rfl (ow_fieldAddr rfl rfl Tryd.underlying27 rfl (Tryd.sizeOf25 _) ?_)
     exact ⟨BX.refl _ _, rfl⟩
    ·
     intro w10 D hS2 hd2
     have hl10 := Le.no M2 hS2
     have hC10 := hC6.no hS2
     have ho16 := ho8.no hS2
     have ho17 := ho9.no hS2
     have hr7 := hw1.no hS2
     have hd2 : PEq (.pointer (some ⟨g2, 0, none⟩)) (D 0) w10 ∧ True := hd2
     obtain ⟨d1, -⟩ := hd2
     refine dg_sub (E' := [(22, (.pointer (some ⟨g2, 0, none⟩)))]) ⟨(congrArg some d1), trivial⟩ ?_
     refine dg_plain rfl (ow_loadOwn1 rfl rfl rfl ho17 (Tryd.isAgg25 _) rfl ?_)
     exact ⟨BX.refl _ _, rfl⟩
    ·
     intro w11 D hS3 hd3
     have hl11 := Le.no M2 hS3
     have hC11 := hC6.no hS3
     have ho18 := ho8.no hS3
     have ho19 := ho9.no hS3
     have hr8 := hw1.no hS3
     refine dg_sub (E' := [(5, (.int .i64 x3.Field))]) ⟨rfl, trivial⟩ ?_
     refine dg_plain rfl (ow_move rfl rfl ?_)
     exact ⟨BX.refl _ _, rfl⟩
    ·
     intro w12 D hS4 hd4
     have hl12 := Le.no M2 hS4
     have hC12 := hC6.no hS4
     have ho20 := ho8.no hS4
     have ho21 := ho9.no hS4
     have hr9 := hw1.no hS4
     refine dg_sub (E' := [(3, (.pointer (some ⟨g2, 0, none⟩)))]) ⟨rfl, trivial⟩ ?_
     refine dg_plain rfl (ow_fieldAddr rfl rfl Tryd.underlying27 rfl (Tryd.sizeOf25 _) ?_)
     exact ⟨BX.refl _ _, rfl⟩
    ·
     intro w13 D hS5 hd5
     have hl13 := Le.no M2 hS5
     have hC13 := hC6.no hS5
     have ho22 := ho8.no hS5
     have ho23 := ho9.no hS5
     have hr10 := hw1.no hS5
     have hd5 : PEq (.pointer (some ⟨g2, 0, none⟩)) (D 3) w13 ∧ True := hd5
     obtain ⟨d2, -⟩ := hd5
     refine dg_sub (E' := [(25, (.pointer (some ⟨g2, 0, none⟩)))]) ⟨(congrArg some d2), trivial⟩ ?_
     refine dg_plain rfl (ow_loadOwn1 rfl rfl rfl ho23 (Tryd.isAgg25 _) rfl ?_)
     exact ⟨BX.refl _ _, rfl⟩
    ·
     intro w14 D hS6 hd6
     have hl14 := Le.no M2 hS6
     have hC14 := hC6.no hS6
     have ho24 := ho8.no hS6
     have ho25 := ho9.no hS6
     have hr11 := hw1.no hS6
     refine dg_sub (E' := [(5, (.int .i64 x3.Field))]) ⟨rfl, trivial⟩ ?_
     refine dg_plain rfl (ow_move rfl rfl ?_)
     exact ⟨BX.refl _ _, rfl⟩
    ·
     intro w15 D hS7 hd7
     have hl15 := Le.no M2 hS7
     have hC15 := hC6.no hS7
     have ho26 := ho8.no hS7
     have ho27 := ho9.no hS7
     have hr12 := hw1.no hS7
     have hd7 : PEq (.slice A1 x2.Sides.length c1) (D 4) w15 ∧ PEq (.int .i64 x3.Field) (D 5) w15 ∧ True := hd7
     obtain ⟨d3, d4, -⟩ := hd7
     refine dg_sub (E' := [(26, (.slice A1 x2.Sides.length c1)), (27, (.int .i64 x3.Field))]) ⟨(congrArg some d3), (congrArg some d4), trivial⟩ ?_
     refine dg_plain rfl (ow_indexRow (R := (RSlice RSpan)) rfl rfl rfl hr12 Tryd.underlying25 (Tryd.sizeOf58 _) hx4 ?_)
     exact ⟨BX.refl _ _, rfl⟩
    ·
     intro w16 D hS8 hd8
     have hl16 := Le.no M2 hS8
     have hC16 := hC6.no hS8
     have ho28 := ho8.no hS8
     have ho29 := ho9.no hS8
     have hr13 := hw1.no hS8
     have hd8 : PEq (.pointer (some ⟨blk (.slice A1 x2.Sides.length c1), (x3.Field : Int).toNat * (RSlice RSpan).size + 0, none⟩)) (D 6) w16 ∧ True := hd8
     obtain ⟨d5, -⟩ := hd8
     refine dg_sub (E' := [(28, (.pointer (some ⟨blk (.slice A1 x2.Sides.length c1), (x3.Field : Int).toNat * (RSlice RSpan).size + 0, none⟩)))]) ⟨(congrArg some d5), trivial⟩ ?_
     refine dg_plain rfl (ow_loadElRow (R := (RSlice RSpan)) (S := (RSlice RSpan)) rfl rfl rfl hr13 (orow_blk hr13 hx4) hx4 (Fld.whole (RSlice RSpan)) (Tryd.sizeOf58 _) (Tryd.isAgg58 _) fun v11 hv11 => ?_)
     exact ⟨BX.refl _ _, hv11⟩
    ·
     intro w17 D hS9 hd9
     have hl17 := Le.no M2 hS9
     have hC17 := hC6.no hS9
     have ho30 := ho8.no hS9
     have ho31 := ho9.no hS9
     have hr14 := hw1.no hS9
     refine dg_sub (E' := [(0, v0p)]) ⟨rfl, trivial⟩ ?_
     refine dg_plain rfl (ow_move rfl rfl ?_)
     exact ⟨BX.refl _ _, (VRep.mono ((((((hl1.trans hl2).trans hl3).trans hl4).trans hl5).trans hl6).trans hl17) h0)⟩
    ·
     intro w18 D hS10 hd10
     have hl18 := Le.no M2 hS10
     have hC18 := hC6.no hS10
     have ho32 := ho8.no hS10
     have ho33 := ho9.no hS10
     have hr15 := hw1.no hS10
     refine dg_sub (E' := [(4, (.int .i64 k1))]) ⟨rfl, trivial⟩ ?_
     refine dg_plain rfl (ow_move rfl rfl ?_)
     exact ⟨BX.refl _ _, rfl⟩
    ·
     intro w19 D hS11 hd11
     have hl19 := Le.no M2 hS11
     have hC19 := hC6.no hS11
     have ho34 := ho8.no hS11
     have ho35 := ho9.no hS11
     have hr16 := hw1.no hS11
     have hd11 : PV (RSlice RTest) M2 a_list (D 8) w19 ∧ PEq (.int .i64 k1) (D 9) w19 ∧ True := hd11
     obtain ⟨d6, d7, -⟩ := hd11
     obtain ⟨v12, hq1⟩ : ∃ v, (D 8) = v := ⟨_, rfl⟩
     rw [hq1] at d6
     refine dg_sub (E' := [(30, v12), (31, (.int .i64 k1))]) ⟨(congrArg some hq1), (congrArg some d7), trivial⟩ ?_
     refine dg_plain rfl (ow_indexSlice (R := RTest) rfl rfl rfl d6 Tryd.underlying23 (Tryd.sizeOf31 _) hx3 fun p3 hp3 => ?_)
     exact ⟨BX.refl _ _, ⟨_, rfl, hp3⟩⟩
    ·
     intro w20 D hS12 hd12
     have hl20 := Le.no M2 hS12
     have hC20 := hC6.no hS12
     have ho36 := ho8.no hS12
     have ho37 := ho9.no hS12
     have hr17 := hw1.no hS12
     have hd12 : PA RTest M2 x3 (D 10) w20 ∧ True := hd12
     obtain ⟨d8, -⟩ := hd12
     obtain ⟨p4, e1, ha1⟩ := d8
     refine dg_sub (E' := [(32, (.pointer (some p4)))]) ⟨(congrArg some e1), trivial⟩ ?_
     refine dg_plain rfl (ow_load (R := RTest) rfl rfl ha1 (Tryd.sizeOf31 _) (Tryd.isAgg31 _) fun v13 hv13 => ?_)
     exact ⟨BX.refl _ _, hv13⟩
    ·
     intro w21 D hS13 hd13
     have hl21 := Le.no M2 hS13
     have hC21 := hC6.no hS13
     have ho38 := ho8.no hS13
     have ho39 := ho9.no hS13
     have hr18 := hw1.no hS13
     have hd13 : PV RTest M2 x3 (D 11) w21 ∧ True := hd13
     obtain ⟨d9, -⟩ := hd13
     obtain ⟨v14, hq2⟩ : ∃ v, (D 11) = v := ⟨_, rfl⟩
     rw [hq2] at d9
     refine dg_sub (E' := [(33, v14)]) ⟨(congrArg some hq2), trivial⟩ ?_
     refine dg_plain rfl (ow_call rfl rfl Tryd.call61 (w_spec_TestSpans (hG.mono ((((((hl1.trans hl2).trans hl3).trans hl4).trans hl5).trans hl6).trans hl21)) hC21.old d9 hx5) fun v15 w22 hv15 => ?_)
     obtain ⟨hv15, hb9⟩ := hv15
     have hl22 := Le.no M2 hb9
     have hC22 := hC21.no hb9
     have ho40 := ho38.no hb9
     have ho41 := ho39.no hb9
     have hr19 := hr18.no hb9
     exact ⟨hb9, hv15⟩
    ·
     intro w23 D hS14 hd14
     have hl23 := Le.no M2 hS14
     have hC23 := hC6.no hS14
     have ho42 := ho8.no hS14
     have ho43 := ho9.no hS14
     have hr20 := hw1.no hS14
     have hd14 : PV (RSlice RSpan) M2 x4 (D 7) w23 ∧ PV (RSlice RSpan) M2 x5 (D 12) w23 ∧ PV (RSlice RSpan) M2 x5 (D 12) w23 ∧ True := hd14
     obtain ⟨d10, d11, d12, -⟩ := hd14
     obtain ⟨v16, hq3⟩ : ∃ v, (D 7) = v := ⟨_, rfl⟩
     rw [hq3] at d10
     obtain ⟨v17, hq4⟩ : ∃ v, (D 12) = v := ⟨_, rfl⟩
     rw [hq4] at d11
     refine dg_sub (E' := [(29, v16), (34, v17)]) ⟨(congrArg some hq3), (congrArg some hq4), trivial⟩ ?_
     refine dg_plain rfl (ow_call rfl rfl Tryd.call60 (w_spec_l2Meet (hG.mono ((((((hl1.trans hl2).trans hl3).trans hl4).trans hl5).trans hl6).trans hl23)) hC23.old d10 d11 hx6) fun v18 w24 hv18 => ?_)
     obtain ⟨hv18, hb10⟩ := hv18
     have hl24 := Le.no M2 hb10
     have hC24 := hC23.no hb10
     have ho44 := ho42.no hb10
     have ho45 := ho43.no hb10
     have hr21 := hr20.no hb10
     exact ⟨hb10, hv18⟩
    ·
     intro w25 D hS15 hd15
     have hd15 : PEq (.pointer (some ⟨g2, 0, none⟩)) (D 0) w25 ∧ PEq (.slice A1 x2.Sides.length c1) (D 1) w25 ∧ PEq (.int .i64 x3.Field) (D 2) w25 ∧ PEq (.pointer (some ⟨g2, 0, none⟩)) (D 3) w25 ∧ PEq (.slice A1 x2.Sides.length c1) (D 4) w25 ∧ PEq (.int .i64 x3.Field) (D 5) w25 ∧ PEq (.pointer (some ⟨blk (.slice A1 x2.Sides.length c1), (x3.Field : Int).toNat * (RSlice RSpan).size + 0, none⟩)) (D 6) w25 ∧ PV (RSlice RSpan) M2 x4 (D 7) w25 ∧ PV (RSlice RTest) M2 a_list (D 8) w25 ∧ PEq (.int .i64 k1) (D 9) w25 ∧ PA RTest M2 x3 (D 10) w25 ∧ PV RTest M2 x3 (D 11) w25 ∧ PV (RSlice RSpan) M2 x5 (D 12) w25 ∧ PV (RSlice RSpan) M2 x6 (D 13) w25 ∧ True := hd15
     obtain ⟨-, d14, d15, -, -, -, -, -, -, -, -, -, -, d26, -⟩ := hd15
     have hl25 := Le.no M2 hS15
     have hC25 := hC6.no hS15
     have ho46 := ho8.no hS15
     have ho47 := ho9.no hS15
     have hr22 := hw1.no hS15
     obtain ⟨v19, hq5⟩ : ∃ v, (D 13) = v := ⟨_, rfl⟩
     rw [hq5] at d26
     refine lw_sub (E' := [(23, (.slice A1 x2.Sides.length c1)), (24, (.int .i64 x3.Field)), (35, v19), (0, v0p), (2, (.pointer (some ⟨g1, 0, none⟩))), (3, (.pointer (some ⟨g2, 0, none⟩))), (4, (.int .i64 k1)), (5, (.int .i64 x3.Field))]) ⟨(congrArg some d14), (congrArg some d15), (congrArg some hq5), rfl, rfl, rfl, rfl, rfl, trivial⟩ ?_
     refine lw_op rfl rfl rfl (ow_indexRow (R := (RSlice RSpan)) rfl rfl rfl hr22 Tryd.underlying25 (Tryd.sizeOf58 _) hx4 ?_)
     refine lw_op0 rfl rfl (ow_storeElRow (X := No) (R := (RSlice RSpan)) (S := (RSlice RSpan)) rfl rfl rfl rfl hr22 (orow_blk hr22 hx4) hx4 (FldSet.whole (RSlice RSpan)) (Tryd.sizeOf58 _) d26 (Nat.le_refl _) hC25 fun w26 ho48 hb11 hl26 hC26 => ?_)
     have ho49 := ho46.go hb11 (fun e => (orow_ne hr22 ho46 (by decide)) (by rw [orow_blk hr22 hx4]; exact congrArg some e.symm))
     have ho50 := ho47.go hb11 (fun e => (orow_ne hr22 ho47 (by decide)) (by rw [orow_blk hr22 hx4]; exact congrArg some e.symm))
     refine lw_nil (ew_blockN ?_)
     refine ew_then (cw_region (lw_op rfl rfl rfl (ow_move rfl rfl ?_)))
     refine lw_op rfl rfl rfl (ow_add rfl rfl rfl ?_)
     refine lw_op rfl rfl rfl (ow_assign rfl rfl ?_)
     refine lw_nil (ew_nxt ((W (k1 + 1)), (List.set y1 (x3.Field : Int).toNat x6)) hb6 fun a ha => ⟨M2, ?_, ((hl6.trans hl25).trans hl26), hC26, ho48, ho49, hm5, ho50, hm6⟩)
     exact ha.sub ⟨rfl, rfl, rfl, rfl, trivial⟩
   ·
    obtain rfl := hbb1.trans hc2
    refine cw_false rfl ?_
    refine cw_exit ?_
    refine ew_thenX ?_
    refine ew_thenX ?_
    refine ew_blockX ?_
    refine ew_brk (k1, y1) hb6 fun a ha => ⟨M2, ?_, hl6, hC6, hw1, ho8, hm5, ho9, hm6⟩
    exact ha.sub ⟨rfl, rfl, rfl, rfl, trivial⟩
  ·
   rintro ⟨k2, y2⟩ a w27 hlr2 ⟨M3, hF2, hl27, hC27, hw2, ho51, hm7, ho52, hm8⟩
   subst hlr2
   refine ew_at (E := [(0, v0p), (2, (.pointer (some ⟨g1, 0, none⟩))), (3, (.pointer (some ⟨g2, 0, none⟩))), (4, (.int .i64 k2))]) hF2 ?_
   refine ew_then (cw_seq (cw_region (lw_op rfl rfl rfl (ow_loadOwnA rfl rfl rfl ho52 (Tryd.isAgg27 _) (Tryd.sizeOf27 _) rfl ?_))))
   refine lw_op0 rfl rfl (ow_store (X := No) (us := [(.slice A1 x2.Sides.length c1)]) (cs' := #[(.slice A1 x2.Sides.length c1)]) rfl rfl rfl rfl ho51 (Tryd.sizeOf27 _) rfl rfl rfl rfl hm7 (.inl hg2) rfl hC27 fun w28 ho53 hb12 hl28 hC28 => ?_)
   have ho54 := ho52.go hb12 (fun e => hn1 e.symm)
   have hr23 := hw2.go hb12 (fun k hk e => (orow_ne hw2 ho51 (by decide)) (hk.trans (congrArg some e))) hl28 (fun _ h => h)
   refine lw_nil (ew_then (cw_ret ?_))
   obtain rfl := Option.some.inj h
   exact ew_ret (res1 rfl (.cell rfl (own_loadVarA ho53 (Tryd.isAgg27 _) (Tryd.sizeOf27 _) rfl))) ⟨_, rfl, ⟨M3, _, rfl, hr23, hC28⟩, hC28.bx⟩
 ·
  subst hc1
  refine cw_true rfl ?_
  refine cw_seq (cw_region (lw_op rfl rfl rfl (ow_build (v := .agg #[(.slice none 0 0)]) rfl rfl (by kernel_rfl) ?_)))
  have hw3 : VRep RBox w2 (Add g1 M) ({ Sides := ([] : List (List Span)) } : Box) (.agg #[(.slice none 0 0)]) := shut_Box (vslice_nil (R := (RSlice RSpan)) (w := w2) (M := (Add g1 M)))
  refine lw_op0 rfl rfl (ow_store (X := No) (us := [(.slice none 0 0)]) (cs' := #[(.slice none 0 0)]) rfl rfl rfl rfl ho2 (Tryd.sizeOf27 _) rfl rfl rfl rfl hm1 (.inl hg2) rfl hC2 fun w29 ho55 hb13 hl29 hC29 => ?_)
  refine lw_nil (ew_then (cw_ret (ew_thenR ?_)))
  obtain rfl := Option.some.inj h
  exact ew_ret (res1 rfl (.cell rfl (own_loadVarA ho55 (Tryd.isAgg27 _) (Tryd.sizeOf27 _) rfl))) ⟨_, rfl, ⟨(Add g1 M), _, rfl, ownrow_nil, hC29⟩, hC29.bx⟩

theorem w_impl_SpansHave {w : World} {M : Nat → Prop} (_hG : ARep (RArr 4 RShape) w M shapes ⟨0, 0, none⟩) (hO : ∀ b, M b → b < w.heap.size) {v0p : Value} {a_list : List Span} (h0 : VRep (RSlice RSpan) w M a_list v0p) {a_n : Int} {r : Bool} (h : F.impl_SpansHave a_list a_n = some r) :
  Calls Tryd.prog 40 [v0p, (.int .i64 a_n)].toArray w fun e w' => ∃ v, e = .returned v ∧ VRep RBool w' M r v ∧ BX No w w' := by
 have hC : Cx No w M w M := Cx.start hO (fun _ e => e.elim)
 clear _hG
 refine walk (N := 24) Tryd.func40 rfl Tryd.ntmps40 rfl ?_
 refine cw_seq (cw_region (lw_op rfl rfl rfl (ow_assign rfl rfl ?_)))
 refine lw_nil (ew_then (cw_seq (cw_seq (cw_region (lw_op rfl rfl rfl (ow_move rfl rfl ?_))))))
 refine lw_op rfl rfl rfl (ow_len rfl rfl h0 Tryd.underlying58 rfl ?_)
 refine lw_op rfl rfl rfl (ow_move rfl rfl ?_)
 refine lw_nil (ew_then ?_)
 replace h := bind_some h
 obtain ⟨lr1, hlr1, h⟩ := h
 refine cw_for hlr1 (fun s a w' => ∃ (M' : Nat → Prop), Fits 24 [(1, (.int .i64 a_n)), (7, v0p), (8, (.int .i64 (a_list.length : Int))), (9, (.int .i64 s))] a ∧ Le w M w' M' ∧ Cx No w M w' M') ?_ ?_ ?_
 ·
  intro a ha
  exact ⟨M, ha.sub ⟨rfl, rfl, rfl, rfl, trivial⟩, Le.refl _ _, hC⟩
 ·
  rintro k1 a w1 sr1 ⟨M1, hF1, hl1, hC1⟩ hb1 hR1
  refine cw_at (E := [(1, (.int .i64 a_n)), (7, v0p), (8, (.int .i64 (a_list.length : Int))), (9, (.int .i64 k1))]) hF1 ?_
  refine cw_seq (cw_region (lw_op rfl rfl rfl (ow_lss rfl rfl rfl fun bb1 hbb1 => ?_)))
  refine lw_nil (ew_then (cw_seq ?_))
  replace hb1 := cond_some hb1
  rcases hb1 with ⟨hc1, hb1⟩ | ⟨hc1, hb1⟩
  ·
   obtain rfl := hbb1.trans hc1
   refine cw_true rfl ?_
   refine cw_skip (ew_then (cw_seq (cw_block ?_)))
   refine cw_seq (cw_region ?_)
   replace hb1 := bind_some hb1
   obtain ⟨x1, hx1, hb1⟩ := hb1
   refine lw_op rfl rfl rfl (ow_indexSlice (R := RSpan) rfl rfl rfl (VRep.mono hl1 h0) Tryd.underlying58 (Tryd.sizeOf76 _) hx1 fun p1 hp1 => ?_)
   refine lw_op rfl rfl rfl (ow_load (R := RSpan) rfl rfl hp1 (Tryd.sizeOf76 _) (Tryd.isAgg76 _) fun v2 hv2 => ?_)
   refine lw_allocStore (R := RSpan) rfl rfl rfl rfl rfl rfl rfl Tryd.zeroValue76 Tryd.sizeOf76 rfl rfl rfl (by simp) hv2 hC1 fun p2 w2 hp2 hb2 hl2 hC2 => ?_
   refine lw_nil (ew_then (cw_seq (cw_region (lw_op rfl rfl rfl (ow_fieldAddr rfl rfl Tryd.underlying76 rfl (Tryd.sizeOf3 _) ?_)))))
   refine lw_op rfl rfl rfl (ow_load (R := RInt) rfl rfl (hp2.fld fld_Span_Lo) (Tryd.sizeOf3 _) (Tryd.isAgg3 _) fun v3 hv3 => ?_)
   obtain rfl := vint_eq hv3
   refine lw_op rfl rfl rfl (ow_move rfl rfl ?_)
   refine lw_op rfl rfl rfl (ow_leq rfl rfl rfl fun bb2 hbb2 => ?_)
   refine lw_op rfl rfl rfl (ow_move rfl rfl ?_)
   replace hb1 := cond_some hb1
   rcases hb1 with ⟨hc2, hb1⟩ | ⟨hc2, hb1⟩
   ·
    obtain rfl := hbb2.trans hc2
    refine lw_on rfl rfl rfl rfl rfl rfl (ow_move rfl rfl ?_)
    refine lw_on rfl rfl rfl rfl rfl rfl (ow_fieldAddr rfl rfl Tryd.underlying76 rfl (Tryd.sizeOf3 _) ?_)
    refine lw_on rfl rfl rfl rfl rfl rfl (ow_load (R := RInt) rfl rfl (hp2.fld fld_Span_Hi) (Tryd.sizeOf3 _) (Tryd.isAgg3 _) fun v4 hv4 => ?_)
    obtain rfl := vint_eq hv4
    refine lw_on rfl rfl rfl rfl rfl rfl (ow_leq rfl rfl rfl fun bb3 hbb3 => ?_)
    refine lw_op rfl rfl rfl (ow_pickT rfl rfl rfl ?_)
    refine lw_nil (ew_then ?_)
    replace hb1 := cond_some hb1
    rcases hb1 with ⟨hc3, hb1⟩ | ⟨hc3, hb1⟩
    ·
     obtain rfl := hbb3.trans hc3
     refine cw_true rfl ?_
     refine cw_seq (cw_region (lw_op rfl rfl rfl (ow_assign rfl rfl ?_)))
     refine lw_nil (ew_then (cw_ret (ew_blockR ?_)))
     refine ew_thenR (ew_thenR (ew_blockR ?_))
     refine ew_brkR ?_
     refine ew_thenR ?_
     have e1 := hR1 _ (Option.some.inj hb1).symm
     subst e1
     obtain rfl := Option.some.inj h
     exact ew_ret (res1 rfl (.tmp rfl)) ⟨_, rfl, ((vbool _)), hC2.bx⟩
    ·
     obtain rfl := hbb3.trans hc3
     refine cw_false rfl ?_
     refine cw_skip (ew_blockN ?_)
     refine ew_then (cw_region (lw_op rfl rfl rfl (ow_add rfl rfl rfl ?_)))
     refine lw_op rfl rfl rfl (ow_move rfl rfl ?_)
     refine lw_nil (ew_nxt (W (k1 + 1)) hb1 fun a ha => ⟨M1, ?_, (hl1.trans hl2), hC2⟩)
     exact ha.sub ⟨rfl, rfl, rfl, rfl, trivial⟩
   ·
    obtain rfl := hbb2.trans hc2
    refine lw_off rfl rfl rfl rfl rfl rfl ?_
    refine lw_off rfl rfl rfl rfl rfl rfl ?_
    refine lw_off rfl rfl rfl rfl rfl rfl ?_
    refine lw_off rfl rfl rfl rfl rfl rfl ?_
    refine lw_op rfl rfl rfl (ow_pickF rfl rfl rfl ?_)
    refine lw_nil (ew_then (cw_false rfl ?_))
    refine cw_skip (ew_blockN ?_)
    refine ew_then (cw_region (lw_op rfl rfl rfl (ow_add rfl rfl rfl ?_)))
    refine lw_op rfl rfl rfl (ow_move rfl rfl ?_)
    refine lw_nil (ew_nxt (W (k1 + 1)) hb1 fun a ha => ⟨M1, ?_, (hl1.trans hl2), hC2⟩)
    exact ha.sub ⟨rfl, rfl, rfl, rfl, trivial⟩
  ·
   obtain rfl := hbb1.trans hc1
   refine cw_false rfl ?_
   refine cw_exit ?_
   refine ew_thenX ?_
   refine ew_thenX ?_
   refine ew_blockX ?_
   refine ew_brk k1 hb1 fun a ha => ⟨M1, ?_, hl1, hC1⟩
   exact ha.sub ⟨rfl, rfl, rfl, rfl, trivial⟩
 ·
  rintro k2 a w3 hlr2 ⟨M2, hF2, hl3, hC3⟩
  subst hlr2
  refine ew_at (E := [(1, (.int .i64 a_n)), (7, v0p), (8, (.int .i64 (a_list.length : Int))), (9, (.int .i64 k2))]) hF2 ?_
  refine ew_then (cw_seq (cw_region (lw_op rfl rfl rfl (ow_assign rfl rfl ?_))))
  refine lw_nil (ew_then (cw_ret ?_))
  obtain rfl := Option.some.inj h
  exact ew_ret (res1 rfl (.tmp rfl)) ⟨_, rfl, ((vbool _)), hC3.bx⟩

theorem w_laws_alive {w : World} {M : Nat → Prop} (hG : ARep (RArr 4 RShape) w M shapes ⟨0, 0, none⟩) (hO : ∀ b, M b → b < w.heap.size)  {r : Bool} (h : F.laws_alive = some r) :
  Calls Tryd.prog 19 [].toArray w fun e w' => ∃ v, e = .returned v ∧ VRep RBool w' M r v ∧ BX No w w' := by
 have hC : Cx No w M w M := Cx.start hO (fun _ e => e.elim)
 refine walk (N := 4) Tryd.func19 rfl Tryd.ntmps19 rfl ?_
 refine cw_seq (cw_region (lw_op rfl rfl rfl (ow_assign rfl rfl ?_)))
 refine lw_nil (ew_then (cw_seq (cw_region (lw_op rfl rfl rfl (ow_build (v := .agg #[(.int .i64 2), (.int .i64 4)]) rfl rfl (by kernel_rfl) ?_)))))
 have hw1 : VRep RSpan w M ({ Lo := 2, Hi := 4 } : Span) (.agg #[(.int .i64 2), (.int .i64 4)]) := shut_Span
 refine lw_op rfl rfl rfl (ow_buildSlice (R := RSpan) (xs := [({ Lo := 2, Hi := 4 } : Span)]) (cs := #[(.int .i64 2), (.int .i64 4)]) (e := 76) rfl rfl (by kernel_rfl) rfl rfl ⟨_, _, rfl, hw1.cells, rfl⟩ hC fun p1 w1 hw2 hb1 hl1 hC1 => ?_)
 replace h := bind_some h
 obtain ⟨x1, hx1, h⟩ := h
 refine lw_op rfl rfl rfl (ow_call rfl rfl Tryd.call40 (w_impl_SpansHave (hG.mono hl1) hC1.old hw2 hx1) fun v1 w2 hv1 => ?_)
 obtain ⟨hv1, hb2⟩ := hv1
 have hl2 := Le.no M hb2
 have hC2 := hC1.no hb2
 obtain rfl := vbool_eq hv1
 refine lw_op rfl rfl rfl (ow_assign rfl rfl ?_)
 refine lw_nil (ew_then (cw_ret ?_))
 obtain rfl := Option.some.inj h
 exact ew_ret (res1 rfl (.tmp rfl)) ⟨_, rfl, ((vbool _)), hC2.bx⟩

theorem w_laws_probe {w : World} {M : Nat → Prop} (_hG : ARep (RArr 4 RShape) w M shapes ⟨0, 0, none⟩) (hO : ∀ b, M b → b < w.heap.size) {v0p : Value} {a_list : List Box} (h0 : VRep (RSlice RBox) w M a_list v0p) {a_seed : Int} {r : Packet} (h : F.laws_probe a_list a_seed = some r) :
  Calls Tryd.prog 29 [v0p, (.int .i64 a_seed)].toArray w fun e w' => ∃ v, e = .returned v ∧ VRep RPacket w' M r v ∧ BX No w w' := by
 have hC : Cx No w M w M := Cx.start hO (fun _ e => e.elim)
 clear _hG
 refine walk (N := 107) Tryd.func29 rfl Tryd.ntmps29 rfl ?_
 refine cw_seq (cw_region (lw_op rfl rfl rfl (ow_alloc rfl (Tryd.zeroValue45 _) hC fun g1 w1 hg1 hg2 ho1 hb1 hl1 hC1 => ?_)))
 have hm1 : (Add g1 M) g1 := .inl rfl
 refine lw_nil (ew_then (cw_seq (cw_region (lw_op rfl rfl rfl (ow_move rfl rfl ?_)))))
 refine lw_op rfl rfl rfl (ow_rem rfl rfl rfl (by decide) ?_)
 refine lw_op rfl rfl rfl (ow_move rfl rfl ?_)
 refine lw_op rfl rfl rfl (ow_quo rfl rfl rfl (by decide) ?_)
 refine lw_op rfl rfl rfl (ow_rem rfl rfl rfl (by decide) ?_)
 refine lw_op rfl rfl rfl (ow_move rfl rfl ?_)
 refine lw_op rfl rfl rfl (ow_rem rfl rfl rfl (by decide) ?_)
 refine lw_op rfl rfl rfl (ow_move rfl rfl ?_)
 refine lw_op rfl rfl rfl (ow_rem rfl rfl rfl (by decide) ?_)
 refine lw_op rfl rfl rfl (ow_build (v := .agg #[(.int .i64 ((a_seed).tmod 65536)), (.int .i64 (((W ((a_seed).tdiv 3))).tmod 65536)), (.int .i64 ((a_seed).tmod 256)), (.int .i64 ((a_seed).tmod 8))]) rfl rfl (by kernel_rfl) ?_)
 have hw1 : VRep RPacket w1 (Add g1 M) ({ From := ((a_seed).tmod 65536), To := (((W ((a_seed).tdiv 3))).tmod 65536), Port := ((a_seed).tmod 256), Proto := ((a_seed).tmod 8) } : Packet) (.agg #[(.int .i64 ((a_seed).tmod 65536)), (.int .i64 (((W ((a_seed).tdiv 3))).tmod 65536)), (.int .i64 ((a_seed).tmod 256)), (.int .i64 ((a_seed).tmod 8))]) := shut_Packet
 refine lw_allocStore (R := RPacket) rfl rfl rfl rfl rfl rfl rfl Tryd.zeroValue45 Tryd.sizeOf45 rfl rfl rfl (by simp) hw1 hC1 fun p1 w2 hp1 hb2 hl2 hC2 => ?_
 have ho2 := ho1.no hb2
 refine lw_nil (ew_then (cw_seq (cw_region (lw_op rfl rfl rfl (ow_fieldAddr rfl rfl Tryd.underlying45 rfl (Tryd.sizeOf3 _) ?_)))))
 refine lw_op rfl rfl rfl (ow_load (R := RInt) rfl rfl (hp1.fld fld_Packet_From) (Tryd.sizeOf3 _) (Tryd.isAgg3 _) fun v1 hv1 => ?_)
 obtain rfl := vint_eq hv1
 refine lw_op rfl rfl rfl (ow_fieldAddr rfl rfl Tryd.underlying45 rfl (Tryd.sizeOf3 _) ?_)
 refine lw_op rfl rfl rfl (ow_load (R := RInt) rfl rfl (hp1.fld fld_Packet_To) (Tryd.sizeOf3 _) (Tryd.isAgg3 _) fun v2 hv2 => ?_)
 obtain rfl := vint_eq hv2
 refine lw_op rfl rfl rfl (ow_fieldAddr rfl rfl Tryd.underlying45 rfl (Tryd.sizeOf3 _) ?_)
 refine lw_op rfl rfl rfl (ow_load (R := RInt) rfl rfl (hp1.fld fld_Packet_Port) (Tryd.sizeOf3 _) (Tryd.isAgg3 _) fun v3 hv3 => ?_)
 obtain rfl := vint_eq hv3
 refine lw_op rfl rfl rfl (ow_fieldAddr rfl rfl Tryd.underlying45 rfl (Tryd.sizeOf3 _) ?_)
 refine lw_op rfl rfl rfl (ow_load (R := RInt) rfl rfl (hp1.fld fld_Packet_Proto) (Tryd.sizeOf3 _) (Tryd.isAgg3 _) fun v4 hv4 => ?_)
 obtain rfl := vint_eq hv4
 refine lw_op rfl rfl rfl (ow_buildSliceOwn (R := RInt) (xs := [({ From := ((a_seed).tmod 65536), To := (((W ((a_seed).tdiv 3))).tmod 65536), Port := ((a_seed).tmod 256), Proto := ((a_seed).tmod 8) } : Packet).From, ({ From := ((a_seed).tmod 65536), To := (((W ((a_seed).tdiv 3))).tmod 65536), Port := ((a_seed).tmod 256), Proto := ((a_seed).tmod 8) } : Packet).To, ({ From := ((a_seed).tmod 65536), To := (((W ((a_seed).tdiv 3))).tmod 65536), Port := ((a_seed).tmod 256), Proto := ((a_seed).tmod 8) } : Packet).Port, ({ From := ((a_seed).tmod 65536), To := (((W ((a_seed).tdiv 3))).tmod 65536), Port := ((a_seed).tmod 256), Proto := ((a_seed).tmod 8) } : Packet).Proto]) (cs := #[(.int .i64 ({ From := ((a_seed).tmod 65536), To := (((W ((a_seed).tdiv 3))).tmod 65536), Port := ((a_seed).tmod 256), Proto := ((a_seed).tmod 8) } : Packet).From), (.int .i64 ({ From := ((a_seed).tmod 65536), To := (((W ((a_seed).tdiv 3))).tmod 65536), Port := ((a_seed).tmod 256), Proto := ((a_seed).tmod 8) } : Packet).To), (.int .i64 ({ From := ((a_seed).tmod 65536), To := (((W ((a_seed).tdiv 3))).tmod 65536), Port := ((a_seed).tmod 256), Proto := ((a_seed).tmod 8) } : Packet).Port), (.int .i64 ({ From := ((a_seed).tmod 65536), To := (((W ((a_seed).tdiv 3))).tmod 65536), Port := ((a_seed).tmod 256), Proto := ((a_seed).tmod 8) } : Packet).Proto)]) (e := 3) rfl rfl (by kernel_rfl) rfl rfl ⟨_, _, rfl, (vint _).cells, _, _, rfl, (vint _).cells, _, _, rfl, (vint _).cells, _, _, rfl, (vint _).cells, rfl⟩ hC2 fun p2 w3 M1 hr1 hb3 hl3 hC3 hM1 hat1 => ?_)
 have ho3 := ho2.no hb3
 have hm2 := hM1 _ hm1
 refine lw_op rfl rfl rfl (ow_assign rfl rfl ?_)
 refine lw_nil (ew_then (cw_seq (cw_seq (cw_region (lw_op rfl rfl rfl (ow_assign rfl rfl ?_))))))
 refine lw_nil (ew_then ?_)
 replace h := bind_some h
 obtain ⟨lr1, hlr1, h⟩ := h
 refine cw_for hlr1 (fun s a w' => ∃ (M' : Nat → Prop), Fits 107 [(0, v0p), (1, (.int .i64 a_seed)), (4, (.pointer (some ⟨g1, 0, none⟩))), (6, (.slice (some p2) 4 4)), (7, (.int .i64 s.1))] a ∧ Le w3 M1 w' M' ∧ Cx No w M w' M' ∧ OwnRow RInt w.heap.size 3 w' M' s.2 (.slice (some p2) 4 4) ∧ Own w' g1 45 #[(.int .i64 0), (.int .i64 0), (.int .i64 0), (.int .i64 0)] ∧ M' g1) ?_ ?_ ?_
 ·
  intro a ha
  exact ⟨M1, ha.sub ⟨rfl, rfl, rfl, rfl, rfl, trivial⟩, Le.refl _ _, hC3, hr1, ho3, hm2⟩
 ·
  rintro ⟨k1, y1⟩ a w4 sr1 ⟨M2, hF1, hl4, hC4, hw2, ho4, hm3⟩ hb4 hR1
  refine cw_at (E := [(0, v0p), (1, (.int .i64 a_seed)), (4, (.pointer (some ⟨g1, 0, none⟩))), (6, (.slice (some p2) 4 4)), (7, (.int .i64 k1))]) hF1 ?_
  refine cw_seq (cw_seq (cw_region (lw_op rfl rfl rfl (ow_move rfl rfl ?_))))
  refine lw_op rfl rfl rfl (ow_move rfl rfl ?_)
  refine lw_op rfl rfl rfl (ow_len rfl rfl (VRep.mono (((hl1.trans hl2).trans hl3).trans hl4) h0) Tryd.underlying34 rfl ?_)
  refine lw_op rfl rfl rfl (ow_lss rfl rfl rfl fun bb1 hbb1 => ?_)
  refine lw_nil (ew_then ?_)
  replace hb4 := cond_some hb4
  rcases hb4 with ⟨hc1, hb4⟩ | ⟨hc1, hb4⟩
  ·
   obtain rfl := hbb1.trans hc1
   refine cw_true rfl ?_
   refine cw_skip (ew_then (cw_seq (cw_block ?_)))
   refine cw_seq (cw_region (lw_op rfl rfl rfl (ow_assign rfl rfl ?_)))
   refine lw_nil (ew_then ?_)
   replace hb4 := bind_some hb4
   obtain ⟨lr2, hlr2, hb4⟩ := hb4
   refine cw_for hlr2 (fun s a w' => ∃ (M' : Nat → Prop), Fits 107 [(0, v0p), (1, (.int .i64 a_seed)), (4, (.pointer (some ⟨g1, 0, none⟩))), (6, (.slice (some p2) 4 4)), (7, (.int .i64 k1)), (8, (.int .i64 s.1))] a ∧ Le w4 M2 w' M' ∧ Cx No w M w' M' ∧ OwnRow RInt w.heap.size 3 w' M' s.2 (.slice (some p2) 4 4) ∧ Own w' g1 45 #[(.int .i64 0), (.int .i64 0), (.int .i64 0), (.int .i64 0)] ∧ M' g1) ?_ ?_ ?_
   ·
    intro a ha
    exact ⟨M2, ha.sub ⟨rfl, rfl, rfl, rfl, rfl, rfl, trivial⟩, Le.refl _ _, hC4, hw2, ho4, hm3⟩
   ·
    rintro ⟨k2, y2⟩ a w5 sr2 ⟨M3, hF2, hl5, hC5, hw3, ho5, hm4⟩ hb5 hR2
    refine cw_at (E := [(0, v0p), (1, (.int .i64 a_seed)), (4, (.pointer (some ⟨g1, 0, none⟩))), (6, (.slice (some p2) 4 4)), (7, (.int .i64 k1)), (8, (.int .i64 k2))]) hF2 ?_
    refine cw_seq (cw_seq (cw_region (lw_op rfl rfl rfl (ow_move rfl rfl ?_))))
    refine lw_op rfl rfl rfl (ow_lss rfl rfl rfl fun bb2 hbb2 => ?_)
    refine lw_op rfl rfl rfl (ow_move rfl rfl ?_)
    replace hb5 := cond_some hb5
    rcases hb5 with ⟨hc2, hb5⟩ | ⟨hc2, hb5⟩
    ·
     obtain rfl := hbb2.trans hc2
     refine lw_on rfl rfl rfl rfl rfl rfl (ow_move rfl rfl ?_)
     refine lw_on rfl rfl rfl rfl rfl rfl (ow_move rfl rfl ?_)
     refine lw_on rfl rfl rfl rfl rfl rfl (ow_move rfl rfl ?_)
     replace hb5 := bind_some hb5
     obtain ⟨x1, hx1, hb5⟩ := hb5
     refine lw_on rfl rfl rfl rfl rfl rfl (ow_indexSlice (R := RBox) rfl rfl rfl (VRep.mono ((((hl1.trans hl2).trans hl3).trans hl4).trans hl5) h0) Tryd.underlying34 (Tryd.sizeOf27 _) hx1 fun p3 hp3 => ?_)
     refine lw_on rfl rfl rfl rfl rfl rfl (ow_fieldAddr rfl rfl Tryd.underlying27 rfl (Tryd.sizeOf25 _) ?_)
     refine lw_on rfl rfl rfl rfl rfl rfl (ow_load (R := (RSlice (RSlice RSpan))) rfl rfl (hp3.fld fld_Box_Sides) (Tryd.sizeOf25 _) (Tryd.isAgg25 _) fun v9 hv9 => ?_)
     refine lw_on rfl rfl rfl rfl rfl rfl (ow_len rfl rfl hv9 Tryd.underlying25 rfl ?_)
     refine lw_on rfl rfl rfl rfl rfl rfl (ow_lss rfl rfl rfl fun bb3 hbb3 => ?_)
     refine lw_op rfl rfl rfl (ow_pickT rfl rfl rfl ?_)
     refine lw_nil (ew_then ?_)
     replace hb5 := cond_some hb5
     rcases hb5 with ⟨hc3, hb5⟩ | ⟨hc3, hb5⟩
     ·
      obtain rfl := hbb3.trans hc3
      refine cw_true rfl ?_
      refine cw_skip (ew_then (cw_seq (cw_block ?_)))
      refine cw_seq (cw_region (lw_op rfl rfl rfl (ow_move rfl rfl ?_)))
      refine lw_op rfl rfl rfl (ow_move rfl rfl ?_)
      refine lw_op rfl rfl rfl (ow_indexSlice (R := RBox) rfl rfl rfl (VRep.mono ((((hl1.trans hl2).trans hl3).trans hl4).trans hl5) h0) Tryd.underlying34 (Tryd.sizeOf27 _) hx1 fun p4 hp4 => ?_)
      refine lw_op rfl rfl rfl (ow_fieldAddr rfl rfl Tryd.underlying27 rfl (Tryd.sizeOf25 _) ?_)
      refine lw_op rfl rfl rfl (ow_load (R := (RSlice (RSlice RSpan))) rfl rfl (hp4.fld fld_Box_Sides) (Tryd.sizeOf25 _) (Tryd.isAgg25 _) fun v10 hv10 => ?_)
      refine lw_op rfl rfl rfl (ow_move rfl rfl ?_)
      replace hb5 := bind_some hb5
      obtain ⟨x2, hx2, hb5⟩ := hb5
      refine lw_op rfl rfl rfl (ow_indexSlice (R := (RSlice RSpan)) rfl rfl rfl hv10 Tryd.underlying25 (Tryd.sizeOf58 _) hx2 fun p5 hp5 => ?_)
      refine lw_op rfl rfl rfl (ow_load (R := (RSlice RSpan)) rfl rfl hp5 (Tryd.sizeOf58 _) (Tryd.isAgg58 _) fun v11 hv11 => ?_)
      refine lw_op rfl rfl rfl (ow_assign rfl rfl ?_)
      refine lw_nil (ew_then (cw_seq (cw_seq (cw_region (lw_op rfl rfl rfl (ow_move rfl rfl ?_))))))
      refine lw_op rfl rfl rfl (ow_len rfl rfl hv11 Tryd.underlying58 rfl ?_)
      refine lw_op rfl rfl rfl (ow_eqlI rfl rfl rfl fun bb4 hbb4 => ?_)
      refine lw_op rfl rfl rfl (ow_move rfl rfl ?_)
      replace hb5 := cond_some hb5
      rcases hb5 with ⟨hc4, hb5⟩ | ⟨hc4, hb5⟩
      ·
       obtain rfl := hbb4.trans hc4
       refine lw_off rfl rfl rfl rfl rfl rfl ?_
       refine lw_off rfl rfl rfl rfl rfl rfl ?_
       refine lw_off rfl rfl rfl rfl rfl rfl ?_
       refine lw_off rfl rfl rfl rfl rfl rfl ?_
       refine lw_off rfl rfl rfl rfl rfl rfl ?_
       refine lw_off rfl rfl rfl rfl rfl rfl ?_
       refine lw_off rfl rfl rfl rfl rfl rfl ?_
       refine lw_op rfl rfl rfl (ow_pickT rfl rfl rfl ?_)
       refine lw_nil (ew_then (cw_true rfl ?_))
       refine cw_exit ?_
       refine ew_thenX ?_
       refine ew_blockX ?_
       refine ew_then (cw_region (lw_op rfl rfl rfl (ow_move rfl rfl ?_)))
       refine lw_op rfl rfl rfl (ow_add rfl rfl rfl ?_)
       refine lw_op rfl rfl rfl (ow_assign rfl rfl ?_)
       refine lw_nil (ew_nxt ((W (k2 + 1)), y2) hb5 fun a ha => ⟨M3, ?_, hl5, hC5, hw3, ho5, hm4⟩)
       exact ha.sub ⟨rfl, rfl, rfl, rfl, rfl, rfl, trivial⟩
      ·
       obtain rfl := hbb4.trans hc4
       refine lw_on rfl rfl rfl rfl rfl rfl (ow_move rfl rfl ?_)
       refine lw_on rfl rfl rfl rfl rfl rfl (ow_move rfl rfl ?_)
       refine lw_on rfl rfl rfl rfl rfl rfl (ow_add rfl rfl rfl ?_)
       refine lw_on rfl rfl rfl rfl rfl rfl (ow_move rfl rfl ?_)
       refine lw_on rfl rfl rfl rfl rfl rfl (ow_add rfl rfl rfl ?_)
       refine lw_on rfl rfl rfl rfl rfl rfl (ow_rem rfl rfl rfl (by decide) ?_)
       refine lw_on rfl rfl rfl rfl rfl rfl (ow_eqlI rfl rfl rfl fun bb5 hbb5 => ?_)
       refine lw_op rfl rfl rfl (ow_pickF rfl rfl rfl ?_)
       refine lw_nil (ew_then ?_)
       replace hb5 := cond_some hb5
       rcases hb5 with ⟨hc5, hb5⟩ | ⟨hc5, hb5⟩
       ·
        obtain rfl := hbb5.trans hc5
        refine cw_true rfl ?_
        refine cw_exit ?_
        refine ew_thenX ?_
        refine ew_blockX ?_
        refine ew_then (cw_region (lw_op rfl rfl rfl (ow_move rfl rfl ?_)))
        refine lw_op rfl rfl rfl (ow_add rfl rfl rfl ?_)
        refine lw_op rfl rfl rfl (ow_assign rfl rfl ?_)
        refine lw_nil (ew_nxt ((W (k2 + 1)), y2) hb5 fun a ha => ⟨M3, ?_, hl5, hC5, hw3, ho5, hm4⟩)
        exact ha.sub ⟨rfl, rfl, rfl, rfl, rfl, rfl, trivial⟩
       ·
        obtain rfl := hbb5.trans hc5
        refine cw_false rfl ?_
        refine cw_skip (ew_then (cw_seq (cw_region (lw_op rfl rfl rfl (ow_move rfl rfl ?_)))))
        refine lw_op rfl rfl rfl (ow_move rfl rfl ?_)
        refine lw_op rfl rfl rfl (ow_move rfl rfl ?_)
        refine lw_op rfl rfl rfl (ow_add rfl rfl rfl ?_)
        refine lw_op rfl rfl rfl (ow_move rfl rfl ?_)
        refine lw_op rfl rfl rfl (ow_len rfl rfl hv11 Tryd.underlying58 rfl ?_)
        replace hb5 := bind_some hb5
        obtain ⟨u1, hu1, hb5⟩ := hb5
        refine lw_op rfl rfl rfl (ow_rem rfl rfl rfl (nzF_some hu1) ?_)
        replace hb5 := bind_some hb5
        obtain ⟨x3, hx3, hb5⟩ := hb5
        refine lw_op rfl rfl rfl (ow_indexSlice (R := RSpan) rfl rfl rfl hv11 Tryd.underlying58 (Tryd.sizeOf76 _) hx3 fun p6 hp6 => ?_)
        refine lw_op rfl rfl rfl (ow_load (R := RSpan) rfl rfl hp6 (Tryd.sizeOf76 _) (Tryd.isAgg76 _) fun v12 hv12 => ?_)
        refine lw_allocStore (R := RSpan) rfl rfl rfl rfl rfl rfl rfl Tryd.zeroValue76 Tryd.sizeOf76 rfl rfl rfl (by simp) hv12 hC5 fun p7 w6 hp7 hb6 hl6 hC6 => ?_
        have ho6 := ho5.no hb6
        have hr2 := hw3.no hb6
        refine lw_nil (ew_then (cw_seq (cw_region (lw_op rfl rfl rfl (ow_move rfl rfl ?_)))))
        refine lw_op rfl rfl rfl (ow_move rfl rfl ?_)
        refine lw_op rfl rfl rfl (ow_fieldAddr rfl rfl Tryd.underlying76 rfl (Tryd.sizeOf3 _) ?_)
        refine lw_op rfl rfl rfl (ow_load (R := RInt) rfl rfl (hp7.fld fld_Span_Lo) (Tryd.sizeOf3 _) (Tryd.isAgg3 _) fun v13 hv13 => ?_)
        obtain rfl := vint_eq hv13
        replace hb5 := bind_some hb5
        obtain ⟨x4, hx4, hb5⟩ := hb5
        refine lw_op rfl rfl rfl (ow_indexRow (R := RInt) rfl rfl rfl hr2 Tryd.underlying84 (Tryd.sizeOf3 _) hx4 ?_)
        refine lw_op0 rfl rfl (ow_storeElRow (X := No) (R := RInt) (S := RInt) rfl rfl rfl rfl hr2 (orow_blk hr2 hx4) hx4 (FldSet.whole RInt) (Tryd.sizeOf3 _) (vint _) (Nat.le_refl _) hC6 fun w7 ho7 hb7 hl7 hC7 => ?_)
        have ho8 := ho6.go hb7 (fun e => (orow_ne hr2 ho6 (by decide)) (by rw [orow_blk hr2 hx4]; exact congrArg some e.symm))
        refine lw_nil (ew_then (cw_seq (cw_region (lw_op rfl rfl rfl (ow_move rfl rfl ?_)))))
        refine lw_op rfl rfl rfl (ow_move rfl rfl ?_)
        refine lw_op rfl rfl rfl (ow_add rfl rfl rfl ?_)
        refine lw_op rfl rfl rfl (ow_rem rfl rfl rfl (by decide) ?_)
        refine lw_op rfl rfl rfl (ow_eqlI rfl rfl rfl fun bb6 hbb6 => ?_)
        refine lw_nil (ew_then ?_)
        replace hb5 := cond_some hb5
        rcases hb5 with ⟨hc6, hb5⟩ | ⟨hc6, hb5⟩
        ·
         obtain rfl := hbb6.trans hc6
         refine cw_true rfl ?_
         refine cw_region (lw_op rfl rfl rfl (ow_move rfl rfl ?_))
         refine lw_op rfl rfl rfl (ow_move rfl rfl ?_)
         refine lw_op rfl rfl rfl (ow_fieldAddr rfl rfl Tryd.underlying76 rfl (Tryd.sizeOf3 _) ?_)
         refine lw_op rfl rfl rfl (ow_load (R := RInt) rfl rfl (ARep.mono hl7 (hp7.fld fld_Span_Hi)) (Tryd.sizeOf3 _) (Tryd.isAgg3 _) fun v14 hv14 => ?_)
         obtain rfl := vint_eq hv14
         replace hb5 := bind_some hb5
         obtain ⟨x5, hx5, hb5⟩ := hb5
         refine lw_op rfl rfl rfl (ow_indexRow (R := RInt) rfl rfl rfl ho7 Tryd.underlying84 (Tryd.sizeOf3 _) hx5 ?_)
         refine lw_op0 rfl rfl (ow_storeElRow (X := No) (R := RInt) (S := RInt) rfl rfl rfl rfl ho7 (orow_blk ho7 hx5) hx5 (FldSet.whole RInt) (Tryd.sizeOf3 _) (vint _) (Nat.le_refl _) hC7 fun w8 ho9 hb8 hl8 hC8 => ?_)
         have ho10 := ho8.go hb8 (fun e => (orow_ne ho7 ho8 (by decide)) (by rw [orow_blk ho7 hx5]; exact congrArg some e.symm))
         refine lw_nil (ew_blockN ?_)
         refine ew_then (cw_region (lw_op rfl rfl rfl (ow_move rfl rfl ?_)))
         refine lw_op rfl rfl rfl (ow_add rfl rfl rfl ?_)
         refine lw_op rfl rfl rfl (ow_assign rfl rfl ?_)
         refine lw_nil (ew_nxt ((W (k2 + 1)), (List.set (List.set y2 (k2 : Int).toNat x3.Lo) (k2 : Int).toNat x3.Hi)) hb5 fun a ha => ⟨M3, ?_, (((hl5.trans hl6).trans hl7).trans hl8), hC8, ho9, ho10, hm4⟩)
         exact ha.sub ⟨rfl, rfl, rfl, rfl, rfl, rfl, trivial⟩
        ·
         obtain rfl := hbb6.trans hc6
         refine cw_false rfl ?_
         refine cw_skip (ew_blockN ?_)
         refine ew_then (cw_region (lw_op rfl rfl rfl (ow_move rfl rfl ?_)))
         refine lw_op rfl rfl rfl (ow_add rfl rfl rfl ?_)
         refine lw_op rfl rfl rfl (ow_assign rfl rfl ?_)
         refine lw_nil (ew_nxt ((W (k2 + 1)), (List.set y2 (k2 : Int).toNat x3.Lo)) hb5 fun a ha => ⟨M3, ?_, ((hl5.trans hl6).trans hl7), hC7, ho7, ho8, hm4⟩)
         exact ha.sub ⟨rfl, rfl, rfl, rfl, rfl, rfl, trivial⟩
     ·
      obtain rfl := hbb3.trans hc3
      refine cw_false rfl ?_
      refine cw_exit ?_
      refine ew_thenX ?_
      refine ew_thenX ?_
      refine ew_blockX ?_
      refine ew_brk (k2, y2) hb5 fun a ha => ⟨M3, ?_, hl5, hC5, hw3, ho5, hm4⟩
      exact ha.sub ⟨rfl, rfl, rfl, rfl, rfl, rfl, trivial⟩
    ·
     obtain rfl := hbb2.trans hc2
     refine lw_off rfl rfl rfl rfl rfl rfl ?_
     refine lw_off rfl rfl rfl rfl rfl rfl ?_
     refine lw_off rfl rfl rfl rfl rfl rfl ?_
     refine lw_off rfl rfl rfl rfl rfl rfl ?_
     refine lw_off rfl rfl rfl rfl rfl rfl ?_
     refine lw_off rfl rfl rfl rfl rfl rfl ?_
     refine lw_off rfl rfl rfl rfl rfl rfl ?_
     refine lw_off rfl rfl rfl rfl rfl rfl ?_
     refine lw_op rfl rfl rfl (ow_pickF rfl rfl rfl ?_)
     refine lw_nil (ew_then (cw_false rfl ?_))
     refine cw_exit ?_
     refine ew_thenX ?_
     refine ew_thenX ?_
     refine ew_blockX ?_
     refine ew_brk (k2, y2) hb5 fun a ha => ⟨M3, ?_, hl5, hC5, hw3, ho5, hm4⟩
     exact ha.sub ⟨rfl, rfl, rfl, rfl, rfl, rfl, trivial⟩
   ·
    rintro ⟨k3, y3⟩ a w9 hlr3 ⟨M4, hF3, hl9, hC9, hw4, ho11, hm5⟩
    subst hlr3
    refine ew_at (E := [(0, v0p), (1, (.int .i64 a_seed)), (4, (.pointer (some ⟨g1, 0, none⟩))), (6, (.slice (some p2) 4 4)), (7, (.int .i64 k1)), (8, (.int .i64 k3))]) hF3 ?_
    refine ew_blockN ?_
    refine ew_then (cw_region (lw_op rfl rfl rfl (ow_move rfl rfl ?_)))
    refine lw_op rfl rfl rfl (ow_add rfl rfl rfl ?_)
    refine lw_op rfl rfl rfl (ow_assign rfl rfl ?_)
    refine lw_nil (ew_nxt ((W (k1 + 1)), y3) hb4 fun a ha => ⟨M4, ?_, (hl4.trans hl9), hC9, hw4, ho11, hm5⟩)
    exact ha.sub ⟨rfl, rfl, rfl, rfl, rfl, trivial⟩
  ·
   obtain rfl := hbb1.trans hc1
   refine cw_false rfl ?_
   refine cw_exit ?_
   refine ew_thenX ?_
   refine ew_thenX ?_
   refine ew_blockX ?_
   refine ew_brk (k1, y1) hb4 fun a ha => ⟨M2, ?_, hl4, hC4, hw2, ho4, hm3⟩
   exact ha.sub ⟨rfl, rfl, rfl, rfl, rfl, trivial⟩
 ·
  rintro ⟨k4, y4⟩ a w10 hlr4 ⟨M5, hF4, hl10, hC10, hw5, ho12, hm6⟩
  subst hlr4
  refine ew_at (E := [(0, v0p), (1, (.int .i64 a_seed)), (4, (.pointer (some ⟨g1, 0, none⟩))), (6, (.slice (some p2) 4 4)), (7, (.int .i64 k4))]) hF4 ?_
  refine ew_then (cw_seq ?_)
  replace h := bind_some h
  obtain ⟨x6, hx6, h⟩ := h
  replace h := bind_some h
  obtain ⟨x7, hx7, h⟩ := h
  replace h := bind_some h
  obtain ⟨x8, hx8, h⟩ := h
  replace h := bind_some h
  obtain ⟨x9, hx9, h⟩ := h
  refine cw_sub (E' := [(4, (.pointer (some ⟨g1, 0, none⟩))), (6, (.slice (some p2) 4 4))]) ⟨rfl, rfl, trivial⟩ ?_
  refine cw_drawQ 12 [PEq (.slice (some p2) 4 4), PEq (.pointer (some ⟨blk (.slice (some p2) 4 4), (0 : Int).toNat * RInt.size + 0, none⟩)), PEq (.int .i64 x6), PEq (.slice (some p2) 4 4), PEq (.pointer (some ⟨blk (.slice (some p2) 4 4), (1 : Int).toNat * RInt.size + 0, none⟩)), PEq (.int .i64 x7), PEq (.slice (some p2) 4 4), PEq (.pointer (some ⟨blk (.slice (some p2) 4 4), (2 : Int).toNat * RInt.size + 0, none⟩)), PEq (.int .i64 x8), PEq (.slice (some p2) 4 4), PEq (.pointer (some ⟨blk (.slice (some p2) 4 4), (3 : Int).toNat * RInt.size + 0, none⟩)), PEq (.int .i64 x9)] (by kernel_rfl) rfl (by kernel_rfl) ⟨PEq.mono _, PEq.mono _, PEq.mono _, PEq.mono _, PEq.mono _, PEq.mono _, PEq.mono _, PEq.mono _, PEq.mono _, PEq.mono _, PEq.mono _, PEq.mono _, trivial⟩ ⟨?_, ?_, ?_, ?_, ?_, ?_, ?_, ?_, ?_, ?_, ?_, ?_, trivial⟩ ?_
  ·
   intro w11 D hS1 hd1
   have hl11 := Le.no M5 hS1
   have hC11 := hC10.no hS1
   have ho13 := ho12.no hS1
   have hr3 := hw5.no hS1
   refine dg_sub (E' := [(6, (.slice (some p2) 4 4))]) ⟨rfl, trivial⟩ ?_
   refine dg_plain rfl (ow_move rfl rfl ?_)
   exact ⟨BX.refl _ _, rfl⟩
  ·
   intro w12 D hS2 hd2
   have hl12 := Le.no M5 hS2
   have hC12 := hC10.no hS2
   have ho14 := ho12.no hS2
   have hr4 := hw5.no hS2
   have hd2 : PEq (.slice (some p2) 4 4) (D 0) w12 ∧ True := hd2
   obtain ⟨d1, -⟩ := hd2
   refine dg_sub (E' := [(94, (.slice (some p2) 4 4))]) ⟨(congrArg some d1), trivial⟩ ?_
   refine dg_plain rfl (ow_indexRow (R := RInt) rfl rfl rfl hr4 Tryd.underlying84 (Tryd.sizeOf3 _) hx6 ?_)
   exact ⟨BX.refl _ _, rfl⟩
  ·
   intro w13 D hS3 hd3
   have hl13 := Le.no M5 hS3
   have hC13 := hC10.no hS3
   have ho15 := ho12.no hS3
   have hr5 := hw5.no hS3
   have hd3 : PEq (.pointer (some ⟨blk (.slice (some p2) 4 4), (0 : Int).toNat * RInt.size + 0, none⟩)) (D 1) w13 ∧ True := hd3
   obtain ⟨d2, -⟩ := hd3
   refine dg_sub (E' := [(95, (.pointer (some ⟨blk (.slice (some p2) 4 4), (0 : Int).toNat * RInt.size + 0, none⟩)))]) ⟨(congrArg some d2), trivial⟩ ?_
   refine dg_plain rfl (ow_loadElRow (R := RInt) (S := RInt) rfl rfl rfl hr5 (orow_blk hr5 hx6) hx6 (Fld.whole RInt) (Tryd.sizeOf3 _) (Tryd.isAgg3 _) fun v23 hv23 => ?_)
   obtain rfl := vint_eq hv23
   exact ⟨BX.refl _ _, rfl⟩
  ·
   intro w14 D hS4 hd4
   have hl14 := Le.no M5 hS4
   have hC14 := hC10.no hS4
   have ho16 := ho12.no hS4
   have hr6 := hw5.no hS4
   refine dg_sub (E' := [(6, (.slice (some p2) 4 4))]) ⟨rfl, trivial⟩ ?_
   refine dg_plain rfl (ow_move rfl rfl ?_)
   exact ⟨BX.refl _ _, rfl⟩
  ·
   intro w15 D hS5 hd5
   have hl15 := Le.no M5 hS5
   have hC15 := hC10.no hS5
   have ho17 := ho12.no hS5
   have hr7 := hw5.no hS5
   have hd5 : PEq (.slice (some p2) 4 4) (D 3) w15 ∧ True := hd5
   obtain ⟨d3, -⟩ := hd5
   refine dg_sub (E' := [(97, (.slice (some p2) 4 4))]) ⟨(congrArg some d3), trivial⟩ ?_
   refine dg_plain rfl (ow_indexRow (R := RInt) rfl rfl rfl hr7 Tryd.underlying84 (Tryd.sizeOf3 _) hx7 ?_)
   exact ⟨BX.refl _ _, rfl⟩
  ·
   intro w16 D hS6 hd6
   have hl16 := Le.no M5 hS6
   have hC16 := hC10.no hS6
   have ho18 := ho12.no hS6
   have hr8 := hw5.no hS6
   have hd6 : PEq (.pointer (some ⟨blk (.slice (some p2) 4 4), (1 : Int).toNat * RInt.size + 0, none⟩)) (D 4) w16 ∧ True := hd6
   obtain ⟨d4, -⟩ := hd6
   refine dg_sub (E' := [(98, (.pointer (some ⟨blk (.slice (some p2) 4 4), (1 : Int).toNat * RInt.size + 0, none⟩)))]) ⟨(congrArg some d4), trivial⟩ ?_
   refine dg_plain rfl (ow_loadElRow (R := RInt) (S := RInt) rfl rfl rfl hr8 (orow_blk hr8 hx7) hx7 (Fld.whole RInt) (Tryd.sizeOf3 _) (Tryd.isAgg3 _) fun v24 hv24 => ?_)
   obtain rfl := vint_eq hv24
   exact ⟨BX.refl _ _, rfl⟩
  ·
   intro w17 D hS7 hd7
   have hl17 := Le.no M5 hS7
   have hC17 := hC10.no hS7
   have ho19 := ho12.no hS7
   have hr9 := hw5.no hS7
   refine dg_sub (E' := [(6, (.slice (some p2) 4 4))]) ⟨rfl, trivial⟩ ?_
   refine dg_plain rfl (ow_move rfl rfl ?_)
   exact ⟨BX.refl _ _, rfl⟩
  ·
   intro w18 D hS8 hd8
   have hl18 := Le.no M5 hS8
   have hC18 := hC10.no hS8
   have ho20 := ho12.no hS8
   have hr10 := hw5.no hS8
   have hd8 : PEq (.slice (some p2) 4 4) (D 6) w18 ∧ True := hd8
   obtain ⟨d5, -⟩ := hd8
   refine dg_sub (E' := [(100, (.slice (some p2) 4 4))]) ⟨(congrArg some d5), trivial⟩ ?_
   refine dg_plain rfl (ow_indexRow (R := RInt) rfl rfl rfl hr10 Tryd.underlying84 (Tryd.sizeOf3 _) hx8 ?_)
   exact ⟨BX.refl _ _, rfl⟩
  ·
   intro w19 D hS9 hd9
   have hl19 := Le.no M5 hS9
   have hC19 := hC10.no hS9
   have ho21 := ho12.no hS9
   have hr11 := hw5.no hS9
   have hd9 : PEq (.pointer (some ⟨blk (.slice (some p2) 4 4), (2 : Int).toNat * RInt.size + 0, none⟩)) (D 7) w19 ∧ True := hd9
   obtain ⟨d6, -⟩ := hd9
   refine dg_sub (E' := [(101, (.pointer (some ⟨blk (.slice (some p2) 4 4), (2 : Int).toNat * RInt.size + 0, none⟩)))]) ⟨(congrArg some d6), trivial⟩ ?_
   refine dg_plain rfl (ow_loadElRow (R := RInt) (S := RInt) rfl rfl rfl hr11 (orow_blk hr11 hx8) hx8 (Fld.whole RInt) (Tryd.sizeOf3 _) (Tryd.isAgg3 _) fun v25 hv25 => ?_)
   obtain rfl := vint_eq hv25
   exact ⟨BX.refl _ _, rfl⟩
  ·
   intro w20 D hS10 hd10
   have hl20 := Le.no M5 hS10
   have hC20 := hC10.no hS10
   have ho22 := ho12.no hS10
   have hr12 := hw5.no hS10
   refine dg_sub (E' := [(6, (.slice (some p2) 4 4))]) ⟨rfl, trivial⟩ ?_
   refine dg_plain rfl (ow_move rfl rfl ?_)
   exact ⟨BX.refl _ _, rfl⟩
  ·
   intro w21 D hS11 hd11
   have hl21 := Le.no M5 hS11
   have hC21 := hC10.no hS11
   have ho23 := ho12.no hS11
   have hr13 := hw5.no hS11
   have hd11 : PEq (.slice (some p2) 4 4) (D 9) w21 ∧ True := hd11
   obtain ⟨d7, -⟩ := hd11
   refine dg_sub (E' := [(103, (.slice (some p2) 4 4))]) ⟨(congrArg some d7), trivial⟩ ?_
   refine dg_plain rfl (ow_indexRow (R := RInt) rfl rfl rfl hr13 Tryd.underlying84 (Tryd.sizeOf3 _) hx9 ?_)
   exact ⟨BX.refl _ _, rfl⟩
  ·
   intro w22 D hS12 hd12
   have hl22 := Le.no M5 hS12
   have hC22 := hC10.no hS12
   have ho24 := ho12.no hS12
   have hr14 := hw5.no hS12
   have hd12 : PEq (.pointer (some ⟨blk (.slice (some p2) 4 4), (3 : Int).toNat * RInt.size + 0, none⟩)) (D 10) w22 ∧ True := hd12
   obtain ⟨d8, -⟩ := hd12
   refine dg_sub (E' := [(104, (.pointer (some ⟨blk (.slice (some p2) 4 4), (3 : Int).toNat * RInt.size + 0, none⟩)))]) ⟨(congrArg some d8), trivial⟩ ?_
   refine dg_plain rfl (ow_loadElRow (R := RInt) (S := RInt) rfl rfl rfl hr14 (orow_blk hr14 hx9) hx9 (Fld.whole RInt) (Tryd.sizeOf3 _) (Tryd.isAgg3 _) fun v26 hv26 => ?_)
   obtain rfl := vint_eq hv26
   exact ⟨BX.refl _ _, rfl⟩
  ·
   intro w23 D hS13 hd13
   have hd13 : PEq (.slice (some p2) 4 4) (D 0) w23 ∧ PEq (.pointer (some ⟨blk (.slice (some p2) 4 4), (0 : Int).toNat * RInt.size + 0, none⟩)) (D 1) w23 ∧ PEq (.int .i64 x6) (D 2) w23 ∧ PEq (.slice (some p2) 4 4) (D 3) w23 ∧ PEq (.pointer (some ⟨blk (.slice (some p2) 4 4), (1 : Int).toNat * RInt.size + 0, none⟩)) (D 4) w23 ∧ PEq (.int .i64 x7) (D 5) w23 ∧ PEq (.slice (some p2) 4 4) (D 6) w23 ∧ PEq (.pointer (some ⟨blk (.slice (some p2) 4 4), (2 : Int).toNat * RInt.size + 0, none⟩)) (D 7) w23 ∧ PEq (.int .i64 x8) (D 8) w23 ∧ PEq (.slice (some p2) 4 4) (D 9) w23 ∧ PEq (.pointer (some ⟨blk (.slice (some p2) 4 4), (3 : Int).toNat * RInt.size + 0, none⟩)) (D 10) w23 ∧ PEq (.int .i64 x9) (D 11) w23 ∧ True := hd13
   obtain ⟨-, -, d11, -, -, d14, -, -, d17, -, -, d20, -⟩ := hd13
   have hl23 := Le.no M5 hS13
   have hC23 := hC10.no hS13
   have ho25 := ho12.no hS13
   have hr15 := hw5.no hS13
   refine lw_sub (E' := [(96, (.int .i64 x6)), (99, (.int .i64 x7)), (102, (.int .i64 x8)), (105, (.int .i64 x9)), (4, (.pointer (some ⟨g1, 0, none⟩))), (6, (.slice (some p2) 4 4))]) ⟨(congrArg some d11), (congrArg some d14), (congrArg some d17), (congrArg some d20), rfl, rfl, trivial⟩ ?_
   refine lw_op rfl rfl rfl (ow_build (v := .agg #[(.int .i64 x6), (.int .i64 x7), (.int .i64 x8), (.int .i64 x9)]) rfl rfl (by kernel_rfl) ?_)
   have hw6 : VRep RPacket w23 M5 ({ From := x6, To := x7, Port := x8, Proto := x9 } : Packet) (.agg #[(.int .i64 x6), (.int .i64 x7), (.int .i64 x8), (.int .i64 x9)]) := shut_Packet
   refine lw_op0 rfl rfl (ow_store (X := No) (us := [(.int .i64 x6), (.int .i64 x7), (.int .i64 x8), (.int .i64 x9)]) (cs' := #[(.int .i64 x6), (.int .i64 x7), (.int .i64 x8), (.int .i64 x9)]) rfl rfl rfl rfl ho25 (Tryd.sizeOf45 _) rfl rfl rfl rfl hm6 (.inl hg2) rfl hC23 fun w24 ho26 hb9 hl24 hC24 => ?_)
   have hr16 := hr15.go hb9 (fun k hk e => (orow_ne hr15 ho25 (by decide)) (hk.trans (congrArg some e))) hl24 (fun _ h => h)
   refine lw_nil (ew_then (cw_ret ?_))
   have hw7 : VRep RPacket w24 M5 ({ From := x6, To := x7, Port := x8, Proto := x9 } : Packet) (.agg #[(.int .i64 x6), (.int .i64 x7), (.int .i64 x8), (.int .i64 x9)]) := shut_Packet
   obtain rfl := Option.some.inj h
   exact ew_ret (res1 rfl (.cell rfl (own_loadVarA ho26 (Tryd.isAgg45 _) (Tryd.sizeOf45 _) rfl))) ⟨_, rfl, (hw7.mono hC24.back), hC24.bx⟩

theorem w_impl_topValid {w : World} {M : Nat → Prop} (_hG : ARep (RArr 4 RShape) w M shapes ⟨0, 0, none⟩) (hO : ∀ b, M b → b < w.heap.size) {a_top : Int} {r : Bool} (h : F.impl_topValid a_top = some r) :
  Calls Tryd.prog 101 [(.int .i64 a_top)].toArray w fun e w' => ∃ v, e = .returned v ∧ VRep RBool w' M r v ∧ BX No w w' := by
 have hC : Cx No w M w M := Cx.start hO (fun _ e => e.elim)
 clear _hG
 refine walk (N := 9) Tryd.func101 rfl Tryd.ntmps101 rfl ?_
 refine cw_seq (cw_region (lw_op rfl rfl rfl (ow_assign rfl rfl ?_)))
 refine lw_nil (ew_then (cw_seq (cw_region (lw_op rfl rfl rfl (ow_move rfl rfl ?_)))))
 refine lw_op rfl rfl rfl (ow_geq rfl rfl rfl fun bb1 hbb1 => ?_)
 refine lw_op rfl rfl rfl (ow_move rfl rfl ?_)
 replace h := cond_some h
 rcases h with ⟨hc1, h⟩ | ⟨hc1, h⟩
 ·
  obtain rfl := hbb1.trans hc1
  refine lw_on rfl rfl rfl rfl rfl rfl (ow_move rfl rfl ?_)
  refine lw_on rfl rfl rfl rfl rfl rfl (ow_leq rfl rfl rfl fun bb2 hbb2 => ?_)
  refine lw_op rfl rfl rfl (ow_pickT rfl rfl rfl ?_)
  refine lw_op rfl rfl rfl (ow_assign rfl rfl ?_)
  refine lw_nil (ew_then (cw_ret ?_))
  obtain rfl := Option.some.inj h
  exact ew_ret (res1 rfl (.tmp rfl)) ⟨_, rfl, ((vbool_of hbb2)), hC.bx⟩
 ·
  obtain rfl := hbb1.trans hc1
  refine lw_off rfl rfl rfl rfl rfl rfl ?_
  refine lw_off rfl rfl rfl rfl rfl rfl ?_
  refine lw_op rfl rfl rfl (ow_pickF rfl rfl rfl ?_)
  refine lw_op rfl rfl rfl (ow_assign rfl rfl ?_)
  refine lw_nil (ew_then (cw_ret ?_))
  obtain rfl := Option.some.inj h
  exact ew_ret (res1 rfl (.tmp rfl)) ⟨_, rfl, ((vbool _)), hC.bx⟩

theorem w_impl_SpansValid {w : World} {M : Nat → Prop} (hG : ARep (RArr 4 RShape) w M shapes ⟨0, 0, none⟩) (hO : ∀ b, M b → b < w.heap.size) {v0p : Value} {a_list : List Span} (h0 : VRep (RSlice RSpan) w M a_list v0p) {a_top : Int} {r : Bool} (h : F.impl_SpansValid a_list a_top = some r) :
  Calls Tryd.prog 68 [v0p, (.int .i64 a_top)].toArray w fun e w' => ∃ v, e = .returned v ∧ VRep RBool w' M r v ∧ BX No w w' := by
 have hC : Cx No w M w M := Cx.start hO (fun _ e => e.elim)
 refine walk (N := 43) Tryd.func68 rfl Tryd.ntmps68 rfl ?_
 refine cw_seq (cw_region (lw_op rfl rfl rfl (ow_assign rfl rfl ?_)))
 refine lw_nil (ew_then (cw_seq (cw_seq (cw_region (lw_op rfl rfl rfl (ow_move rfl rfl ?_))))))
 replace h := bind_some h
 obtain ⟨x1, hx1, h⟩ := h
 refine lw_op rfl rfl rfl (ow_call rfl rfl Tryd.call101 (w_impl_topValid hG hC.old hx1) fun v1 w1 hv1 => ?_)
 obtain ⟨hv1, hb1⟩ := hv1
 have hl1 := Le.no M hb1
 have hC1 := hC.no hb1
 obtain rfl := vbool_eq hv1
 refine lw_op rfl rfl rfl (ow_not rfl rfl ?_)
 refine lw_op rfl rfl rfl (ow_move rfl rfl ?_)
 replace h := cond_some h
 rcases h with ⟨hc1, h⟩ | ⟨hc1, h⟩
 ·
  subst hc1
  refine lw_on rfl rfl rfl rfl rfl rfl (ow_move rfl rfl ?_)
  refine lw_on rfl rfl rfl rfl rfl rfl (ow_len rfl rfl (VRep.mono hl1 h0) Tryd.underlying58 rfl ?_)
  refine lw_on rfl rfl rfl rfl rfl rfl (ow_gtr rfl rfl rfl fun bb1 hbb1 => ?_)
  refine lw_op rfl rfl rfl (ow_pickF rfl rfl rfl ?_)
  refine lw_nil (ew_then ?_)
  replace h := cond_some h
  rcases h with ⟨hc2, h⟩ | ⟨hc2, h⟩
  ·
   obtain rfl := hbb1.trans hc2
   refine cw_true rfl ?_
   refine cw_seq (cw_region (lw_op rfl rfl rfl (ow_assign rfl rfl ?_)))
   refine lw_nil (ew_then (cw_ret (ew_thenR ?_)))
   obtain rfl := Option.some.inj h
   exact ew_ret (res1 rfl (.tmp rfl)) ⟨_, rfl, ((vbool _)), hC1.bx⟩
  ·
   obtain rfl := hbb1.trans hc2
   refine cw_false rfl ?_
   refine cw_skip (ew_then (cw_seq (cw_region (lw_op rfl rfl rfl (ow_assign rfl rfl ?_)))))
   refine lw_nil (ew_then (cw_seq (cw_seq (cw_region (lw_op rfl rfl rfl (ow_move rfl rfl ?_))))))
   refine lw_op rfl rfl rfl (ow_len rfl rfl (VRep.mono hl1 h0) Tryd.underlying58 rfl ?_)
   refine lw_op rfl rfl rfl (ow_move rfl rfl ?_)
   refine lw_nil (ew_then ?_)
   replace h := bind_some h
   obtain ⟨lr1, hlr1, h⟩ := h
   refine cw_for hlr1 (fun s a w' => ∃ (M' : Nat → Prop), Fits 43 [(1, (.int .i64 a_top)), (5, (.int .i64 s.1)), (16, v0p), (17, (.int .i64 (a_list.length : Int))), (18, (.int .i64 s.2))] a ∧ Le w1 M w' M' ∧ Cx No w M w' M') ?_ ?_ ?_
   ·
    intro a ha
    exact ⟨M, ha.sub ⟨rfl, rfl, rfl, rfl, rfl, trivial⟩, Le.refl _ _, hC1⟩
   ·
    rintro ⟨k1, k2⟩ a w2 sr1 ⟨M1, hF1, hl2, hC2⟩ hb2 hR1
    refine cw_at (E := [(1, (.int .i64 a_top)), (5, (.int .i64 k1)), (16, v0p), (17, (.int .i64 (a_list.length : Int))), (18, (.int .i64 k2))]) hF1 ?_
    refine cw_seq (cw_region (lw_op rfl rfl rfl (ow_lss rfl rfl rfl fun bb2 hbb2 => ?_)))
    refine lw_nil (ew_then (cw_seq ?_))
    replace hb2 := cond_some hb2
    rcases hb2 with ⟨hc3, hb2⟩ | ⟨hc3, hb2⟩
    ·
     obtain rfl := hbb2.trans hc3
     refine cw_true rfl ?_
     refine cw_skip (ew_then (cw_seq (cw_block ?_)))
     refine cw_seq (cw_region ?_)
     replace hb2 := bind_some hb2
     obtain ⟨x2, hx2, hb2⟩ := hb2
     refine lw_op rfl rfl rfl (ow_indexSlice (R := RSpan) rfl rfl rfl (VRep.mono (hl1.trans hl2) h0) Tryd.underlying58 (Tryd.sizeOf76 _) hx2 fun p1 hp1 => ?_)
     refine lw_op rfl rfl rfl (ow_load (R := RSpan) rfl rfl hp1 (Tryd.sizeOf76 _) (Tryd.isAgg76 _) fun v4 hv4 => ?_)
     refine lw_allocStore (R := RSpan) rfl rfl rfl rfl rfl rfl rfl Tryd.zeroValue76 Tryd.sizeOf76 rfl rfl rfl (by simp) hv4 hC2 fun p2 w3 hp2 hb3 hl3 hC3 => ?_
     refine lw_nil (ew_then (cw_seq (cw_seq (cw_region (lw_op rfl rfl rfl (ow_fieldAddr rfl rfl Tryd.underlying76 rfl (Tryd.sizeOf3 _) ?_))))))
     refine lw_op rfl rfl rfl (ow_load (R := RInt) rfl rfl (hp2.fld fld_Span_Lo) (Tryd.sizeOf3 _) (Tryd.isAgg3 _) fun v5 hv5 => ?_)
     obtain rfl := vint_eq hv5
     refine lw_op rfl rfl rfl (ow_move rfl rfl ?_)
     refine lw_op rfl rfl rfl (ow_add rfl rfl rfl ?_)
     refine lw_op rfl rfl rfl (ow_leq rfl rfl rfl fun bb3 hbb3 => ?_)
     refine lw_op rfl rfl rfl (ow_move rfl rfl ?_)
     replace hb2 := cond_some hb2
     rcases hb2 with ⟨hc4, hb2⟩ | ⟨hc4, hb2⟩
     ·
      obtain rfl := hbb3.trans hc4
      refine lw_off rfl rfl rfl rfl rfl rfl ?_
      refine lw_off rfl rfl rfl rfl rfl rfl ?_
      refine lw_off rfl rfl rfl rfl rfl rfl ?_
      refine lw_off rfl rfl rfl rfl rfl rfl ?_
      refine lw_off rfl rfl rfl rfl rfl rfl ?_
      refine lw_op rfl rfl rfl (ow_pickT rfl rfl rfl ?_)
      refine lw_op rfl rfl rfl (ow_move rfl rfl ?_)
      refine lw_off rfl rfl rfl rfl rfl rfl ?_
      refine lw_off rfl rfl rfl rfl rfl rfl ?_
      refine lw_off rfl rfl rfl rfl rfl rfl ?_
      refine lw_off rfl rfl rfl rfl rfl rfl ?_
      refine lw_op rfl rfl rfl (ow_pickT rfl rfl rfl ?_)
      refine lw_nil (ew_then (cw_true rfl ?_))
      refine cw_seq (cw_region (lw_op rfl rfl rfl (ow_assign rfl rfl ?_)))
      refine lw_nil (ew_then (cw_ret (ew_thenR (ew_blockR ?_))))
      refine ew_thenR (ew_thenR (ew_blockR ?_))
      refine ew_brkR ?_
      refine ew_thenR ?_
      have e1 := hR1 _ (Option.some.inj hb2).symm
      subst e1
      obtain rfl := Option.some.inj h
      exact ew_ret (res1 rfl (.tmp rfl)) ⟨_, rfl, ((vbool _)), hC3.bx⟩
     ·
      obtain rfl := hbb3.trans hc4
      refine lw_on rfl rfl rfl rfl rfl rfl (ow_fieldAddr rfl rfl Tryd.underlying76 rfl (Tryd.sizeOf3 _) ?_)
      refine lw_on rfl rfl rfl rfl rfl rfl (ow_load (R := RInt) rfl rfl (hp2.fld fld_Span_Lo) (Tryd.sizeOf3 _) (Tryd.isAgg3 _) fun v6 hv6 => ?_)
      obtain rfl := vint_eq hv6
      refine lw_on rfl rfl rfl rfl rfl rfl (ow_fieldAddr rfl rfl Tryd.underlying76 rfl (Tryd.sizeOf3 _) ?_)
      refine lw_on rfl rfl rfl rfl rfl rfl (ow_load (R := RInt) rfl rfl (hp2.fld fld_Span_Hi) (Tryd.sizeOf3 _) (Tryd.isAgg3 _) fun v7 hv7 => ?_)
      obtain rfl := vint_eq hv7
      refine lw_on rfl rfl rfl rfl rfl rfl (ow_gtr rfl rfl rfl fun bb4 hbb4 => ?_)
      refine lw_op rfl rfl rfl (ow_pickF rfl rfl rfl ?_)
      refine lw_op rfl rfl rfl (ow_move rfl rfl ?_)
      replace hb2 := cond_some hb2
      rcases hb2 with ⟨hc5, hb2⟩ | ⟨hc5, hb2⟩
      ·
       obtain rfl := hbb4.trans hc5
       refine lw_off rfl rfl rfl rfl rfl rfl ?_
       refine lw_off rfl rfl rfl rfl rfl rfl ?_
       refine lw_off rfl rfl rfl rfl rfl rfl ?_
       refine lw_off rfl rfl rfl rfl rfl rfl ?_
       refine lw_op rfl rfl rfl (ow_pickT rfl rfl rfl ?_)
       refine lw_nil (ew_then (cw_true rfl ?_))
       refine cw_seq (cw_region (lw_op rfl rfl rfl (ow_assign rfl rfl ?_)))
       refine lw_nil (ew_then (cw_ret (ew_thenR (ew_blockR ?_))))
       refine ew_thenR (ew_thenR (ew_blockR ?_))
       refine ew_brkR ?_
       refine ew_thenR ?_
       have e2 := hR1 _ (Option.some.inj hb2).symm
       subst e2
       obtain rfl := Option.some.inj h
       exact ew_ret (res1 rfl (.tmp rfl)) ⟨_, rfl, ((vbool _)), hC3.bx⟩
      ·
       obtain rfl := hbb4.trans hc5
       refine lw_on rfl rfl rfl rfl rfl rfl (ow_fieldAddr rfl rfl Tryd.underlying76 rfl (Tryd.sizeOf3 _) ?_)
       refine lw_on rfl rfl rfl rfl rfl rfl (ow_load (R := RInt) rfl rfl (hp2.fld fld_Span_Hi) (Tryd.sizeOf3 _) (Tryd.isAgg3 _) fun v8 hv8 => ?_)
       obtain rfl := vint_eq hv8
       refine lw_on rfl rfl rfl rfl rfl rfl (ow_move rfl rfl ?_)
       refine lw_on rfl rfl rfl rfl rfl rfl (ow_gtr rfl rfl rfl fun bb5 hbb5 => ?_)
       refine lw_op rfl rfl rfl (ow_pickF rfl rfl rfl ?_)
       refine lw_nil (ew_then ?_)
       replace hb2 := cond_some hb2
       rcases hb2 with ⟨hc6, hb2⟩ | ⟨hc6, hb2⟩
       ·
        obtain rfl := hbb5.trans hc6
        refine cw_true rfl ?_
        refine cw_seq (cw_region (lw_op rfl rfl rfl (ow_assign rfl rfl ?_)))
        refine lw_nil (ew_then (cw_ret (ew_thenR (ew_blockR ?_))))
        refine ew_thenR (ew_thenR (ew_blockR ?_))
        refine ew_brkR ?_
        refine ew_thenR ?_
        have e3 := hR1 _ (Option.some.inj hb2).symm
        subst e3
        obtain rfl := Option.some.inj h
        exact ew_ret (res1 rfl (.tmp rfl)) ⟨_, rfl, ((vbool _)), hC3.bx⟩
       ·
        obtain rfl := hbb5.trans hc6
        refine cw_false rfl ?_
        refine cw_skip (ew_then (cw_region (lw_op rfl rfl rfl (ow_fieldAddr rfl rfl Tryd.underlying76 rfl (Tryd.sizeOf3 _) ?_))))
        refine lw_op rfl rfl rfl (ow_load (R := RInt) rfl rfl (hp2.fld fld_Span_Hi) (Tryd.sizeOf3 _) (Tryd.isAgg3 _) fun v9 hv9 => ?_)
        obtain rfl := vint_eq hv9
        refine lw_op rfl rfl rfl (ow_assign rfl rfl ?_)
        refine lw_nil (ew_blockN ?_)
        refine ew_then (cw_region (lw_op rfl rfl rfl (ow_add rfl rfl rfl ?_)))
        refine lw_op rfl rfl rfl (ow_move rfl rfl ?_)
        refine lw_nil (ew_nxt (x2.Hi, (W (k2 + 1))) hb2 fun a ha => ⟨M1, ?_, (hl2.trans hl3), hC3⟩)
        exact ha.sub ⟨rfl, rfl, rfl, rfl, rfl, trivial⟩
    ·
     obtain rfl := hbb2.trans hc3
     refine cw_false rfl ?_
     refine cw_exit ?_
     refine ew_thenX ?_
     refine ew_thenX ?_
     refine ew_blockX ?_
     refine ew_brk (k1, k2) hb2 fun a ha => ⟨M1, ?_, hl2, hC2⟩
     exact ha.sub ⟨rfl, rfl, rfl, rfl, rfl, trivial⟩
   ·
    rintro ⟨k3, k4⟩ a w4 hlr2 ⟨M2, hF2, hl4, hC4⟩
    subst hlr2
    refine ew_at (E := [(1, (.int .i64 a_top)), (5, (.int .i64 k3)), (16, v0p), (17, (.int .i64 (a_list.length : Int))), (18, (.int .i64 k4))]) hF2 ?_
    refine ew_then (cw_seq (cw_region (lw_op rfl rfl rfl (ow_assign rfl rfl ?_))))
    refine lw_nil (ew_then (cw_ret ?_))
    obtain rfl := Option.some.inj h
    exact ew_ret (res1 rfl (.tmp rfl)) ⟨_, rfl, ((vbool _)), hC4.bx⟩
 ·
  subst hc1
  refine lw_off rfl rfl rfl rfl rfl rfl ?_
  refine lw_off rfl rfl rfl rfl rfl rfl ?_
  refine lw_off rfl rfl rfl rfl rfl rfl ?_
  refine lw_op rfl rfl rfl (ow_pickT rfl rfl rfl ?_)
  refine lw_nil (ew_then (cw_true rfl ?_))
  refine cw_seq (cw_region (lw_op rfl rfl rfl (ow_assign rfl rfl ?_)))
  refine lw_nil (ew_then (cw_ret (ew_thenR ?_)))
  obtain rfl := Option.some.inj h
  exact ew_ret (res1 rfl (.tmp rfl)) ⟨_, rfl, ((vbool _)), hC1.bx⟩

theorem w_impl_BoxValid {w : World} {M : Nat → Prop} (hG : ARep (RArr 4 RShape) w M shapes ⟨0, 0, none⟩) (hO : ∀ b, M b → b < w.heap.size) {v0p : Value} {a_b : Box} (h0 : VRep RBox w M a_b v0p) {r : Bool} (h : F.impl_BoxValid a_b = some r) :
  Calls Tryd.prog 30 [v0p].toArray w fun e w' => ∃ v, e = .returned v ∧ VRep RBool w' M r v ∧ BX No w w' := by
 have hC : Cx No w M w M := Cx.start hO (fun _ e => e.elim)
 refine walk (N := 23) Tryd.func30 rfl Tryd.ntmps30 rfl ?_
 refine cw_seq (cw_region (lw_op rfl rfl rfl (ow_box (R := RBox) rfl rfl h0 hC fun p1 w1 hp1 hb1 hl1 hC1 => ?_)))
 refine lw_op rfl rfl rfl (ow_assign rfl rfl ?_)
 refine lw_nil (ew_then (cw_seq (cw_seq (cw_region (lw_op rfl rfl rfl (ow_fieldAddr rfl rfl Tryd.underlying27 rfl (Tryd.sizeOf25 _) ?_))))))
 refine lw_op rfl rfl rfl (ow_load (R := (RSlice (RSlice RSpan))) rfl rfl (hp1.fld fld_Box_Sides) (Tryd.sizeOf25 _) (Tryd.isAgg25 _) fun v1 hv1 => ?_)
 refine lw_op rfl rfl rfl (ow_len rfl rfl hv1 Tryd.underlying25 rfl ?_)
 refine lw_op rfl rfl rfl (ow_neqI rfl rfl rfl fun bb1 hbb1 => ?_)
 refine lw_nil (ew_then ?_)
 replace h := cond_some h
 rcases h with ⟨hc1, h⟩ | ⟨hc1, h⟩
 ·
  obtain rfl := hbb1.trans hc1
  refine cw_true rfl ?_
  refine cw_seq (cw_region (lw_op rfl rfl rfl (ow_assign rfl rfl ?_)))
  refine lw_nil (ew_then (cw_ret (ew_thenR ?_)))
  obtain rfl := Option.some.inj h
  exact ew_ret (res1 rfl (.tmp rfl)) ⟨_, rfl, ((vbool _)), hC1.bx⟩
 ·
  obtain rfl := hbb1.trans hc1
  refine cw_false rfl ?_
  refine cw_skip (ew_then (cw_seq (cw_seq (cw_region (lw_op rfl rfl rfl (ow_fieldAddr rfl rfl Tryd.underlying27 rfl (Tryd.sizeOf25 _) ?_))))))
  refine lw_op rfl rfl rfl (ow_load (R := (RSlice (RSlice RSpan))) rfl rfl (hp1.fld fld_Box_Sides) (Tryd.sizeOf25 _) (Tryd.isAgg25 _) fun v2 hv2 => ?_)
  refine lw_op rfl rfl rfl (ow_len rfl rfl hv2 Tryd.underlying25 rfl ?_)
  refine lw_op rfl rfl rfl (ow_move rfl rfl ?_)
  refine lw_nil (ew_then ?_)
  replace h := bind_some h
  obtain ⟨lr1, hlr1, h⟩ := h
  refine cw_for hlr1 (fun s a w' => ∃ (M' : Nat → Prop), Fits 23 [(10, v2), (11, (.int .i64 (a_b.Sides.length : Int))), (12, (.int .i64 s))] a ∧ Le w1 M w' M' ∧ Cx No w M w' M') ?_ ?_ ?_
  ·
   intro a ha
   exact ⟨M, ha.sub ⟨rfl, rfl, rfl, trivial⟩, Le.refl _ _, hC1⟩
  ·
   rintro k1 a w2 sr1 ⟨M1, hF1, hl2, hC2⟩ hb2 hR1
   refine cw_at (E := [(10, v2), (11, (.int .i64 (a_b.Sides.length : Int))), (12, (.int .i64 k1))]) hF1 ?_
   refine cw_seq (cw_region (lw_op rfl rfl rfl (ow_lss rfl rfl rfl fun bb2 hbb2 => ?_)))
   refine lw_nil (ew_then (cw_seq ?_))
   replace hb2 := cond_some hb2
   rcases hb2 with ⟨hc2, hb2⟩ | ⟨hc2, hb2⟩
   ·
    obtain rfl := hbb2.trans hc2
    refine cw_true rfl ?_
    refine cw_skip (ew_then (cw_seq (cw_block ?_)))
    refine cw_seq (cw_region (lw_op rfl rfl rfl (ow_move rfl rfl ?_)))
    replace hb2 := bind_some hb2
    obtain ⟨x1, hx1, hb2⟩ := hb2
    refine lw_op rfl rfl rfl (ow_indexSlice (R := (RSlice RSpan)) rfl rfl rfl (VRep.mono hl2 hv2) Tryd.underlying25 (Tryd.sizeOf58 _) hx1 fun p2 hp2 => ?_)
    refine lw_op rfl rfl rfl (ow_load (R := (RSlice RSpan)) rfl rfl hp2 (Tryd.sizeOf58 _) (Tryd.isAgg58 _) fun v4 hv4 => ?_)
    refine lw_op rfl rfl rfl (ow_assign rfl rfl ?_)
    refine lw_op rfl rfl rfl (ow_assign rfl rfl ?_)
    refine lw_nil (ew_then (cw_seq (cw_region (lw_op rfl rfl rfl (ow_move rfl rfl ?_)))))
    refine lw_op rfl rfl rfl (ow_move rfl rfl ?_)
    replace hb2 := bind_some hb2
    obtain ⟨x2, hx2, hb2⟩ := hb2
    refine lw_op rfl rfl rfl (ow_call rfl rfl Tryd.call69 (w_impl_FieldTop (hG.mono (hl1.trans hl2)) hC2.old hx2) fun v5 w3 hv5 => ?_)
    obtain ⟨hv5, hb3⟩ := hv5
    have hl3 := Le.no M1 hb3
    have hC3 := hC2.no hb3
    obtain rfl := vint_eq hv5
    replace hb2 := bind_some hb2
    obtain ⟨x3, hx3, hb2⟩ := hb2
    refine lw_op rfl rfl rfl (ow_call rfl rfl Tryd.call68 (w_impl_SpansValid (hG.mono ((hl1.trans hl2).trans hl3)) hC3.old (VRep.mono hl3 hv4) hx3) fun v6 w4 hv6 => ?_)
    obtain ⟨hv6, hb4⟩ := hv6
    have hl4 := Le.no M1 hb4
    have hC4 := hC3.no hb4
    obtain rfl := vbool_eq hv6
    refine lw_op rfl rfl rfl (ow_not rfl rfl ?_)
    refine lw_nil (ew_then ?_)
    replace hb2 := cond_some hb2
    rcases hb2 with ⟨hc3, hb2⟩ | ⟨hc3, hb2⟩
    ·
     subst hc3
     refine cw_false rfl ?_
     refine cw_skip (ew_blockN ?_)
     refine ew_then (cw_region (lw_op rfl rfl rfl (ow_add rfl rfl rfl ?_)))
     refine lw_op rfl rfl rfl (ow_move rfl rfl ?_)
     refine lw_nil (ew_nxt (W (k1 + 1)) hb2 fun a ha => ⟨M1, ?_, ((hl2.trans hl3).trans hl4), hC4⟩)
     exact ha.sub ⟨rfl, rfl, rfl, trivial⟩
    ·
     subst hc3
     refine cw_true rfl ?_
     refine cw_seq (cw_region (lw_op rfl rfl rfl (ow_assign rfl rfl ?_)))
     refine lw_nil (ew_then (cw_ret (ew_blockR ?_)))
     refine ew_thenR (ew_thenR (ew_blockR ?_))
     refine ew_brkR ?_
     refine ew_thenR ?_
     have e1 := hR1 _ (Option.some.inj hb2).symm
     subst e1
     obtain rfl := Option.some.inj h
     exact ew_ret (res1 rfl (.tmp rfl)) ⟨_, rfl, ((vbool _)), hC4.bx⟩
   ·
    obtain rfl := hbb2.trans hc2
    refine cw_false rfl ?_
    refine cw_exit ?_
    refine ew_thenX ?_
    refine ew_thenX ?_
    refine ew_blockX ?_
    refine ew_brk k1 hb2 fun a ha => ⟨M1, ?_, hl2, hC2⟩
    exact ha.sub ⟨rfl, rfl, rfl, trivial⟩
  ·
   rintro k2 a w5 hlr2 ⟨M2, hF2, hl5, hC5⟩
   subst hlr2
   refine ew_at (E := [(10, v2), (11, (.int .i64 (a_b.Sides.length : Int))), (12, (.int .i64 k2))]) hF2 ?_
   refine ew_then (cw_seq (cw_region (lw_op rfl rfl rfl (ow_assign rfl rfl ?_))))
   refine lw_nil (ew_then (cw_ret ?_))
   obtain rfl := Option.some.inj h
   exact ew_ret (res1 rfl (.tmp rfl)) ⟨_, rfl, ((vbool _)), hC5.bx⟩

theorem w_impl_sidesOf {w : World} {M : Nat → Prop} (_hG : ARep (RArr 4 RShape) w M shapes ⟨0, 0, none⟩) (hO : ∀ b, M b → b < w.heap.size) {v0p : Value} {a_b : Box} (h0 : VRep RBox w M a_b v0p) {r : (List (List Span))} (h : F.impl_sidesOf a_b = some r) :
  Calls Tryd.prog 65 [v0p].toArray w fun e w' => ∃ v, e = .returned v ∧ VRep (RArr 4 (RSlice RSpan)) w' M r v ∧ BX No w w' := by
 have hC : Cx No w M w M := Cx.start hO (fun _ e => e.elim)
 clear _hG
 refine walk (N := 7) Tryd.func65 rfl Tryd.ntmps65 rfl ?_
 refine cw_seq (cw_region (lw_op rfl rfl rfl (ow_box (R := RBox) rfl rfl h0 hC fun p1 w1 hp1 hb1 hl1 hC1 => ?_)))
 refine lw_op rfl rfl rfl (ow_alloc rfl (Tryd.zeroValue69 _) hC1 fun g1 w2 hg1 hg2 ho1 hb2 hl2 hC2 => ?_)
 have hm1 : (Add g1 M) g1 := .inl rfl
 have ho2 : OwnA (RArr 4 (RSlice RSpan)) w2 (Add g1 M) g1 69 [([] : List Span), ([] : List Span), ([] : List Span), ([] : List Span)] := OwnA.of ho1 ⟨rfl, ⟨_, _, rfl, (vslice_nil (R := RSpan) (w := w2) (M := (Add g1 M))).cells, _, _, rfl, (vslice_nil (R := RSpan) (w := w2) (M := (Add g1 M))).cells, _, _, rfl, (vslice_nil (R := RSpan) (w := w2) (M := (Add g1 M))).cells, _, _, rfl, (vslice_nil (R := RSpan) (w := w2) (M := (Add g1 M))).cells, rfl⟩⟩
 refine lw_nil (ew_then (cw_seq (cw_region (lw_op rfl rfl rfl (ow_fieldAddr rfl rfl Tryd.underlying27 rfl (Tryd.sizeOf25 _) ?_)))))
 refine lw_op rfl rfl rfl (ow_load (R := (RSlice (RSlice RSpan))) rfl rfl (ARep.mono hl2 (hp1.fld fld_Box_Sides)) (Tryd.sizeOf25 _) (Tryd.isAgg25 _) fun v1 hv1 => ?_)
 replace h := bind_some h
 obtain ⟨y1, hy1, h⟩ := h
 refine lw_op rfl rfl rfl (ow_s2ap rfl rfl hv1 Tryd.underlying69 (arrF_some hy1).2 (by decide) fun p2 hp2 => ?_)
 rw [← (arrF_some hy1).1] at hp2
 refine lw_op rfl rfl rfl (ow_load (R := (RArr 4 (RSlice RSpan))) rfl rfl hp2 (Tryd.sizeOf69 _) (Tryd.isAgg69 _) fun v2 hv2 => ?_)
 obtain ⟨cs1, h1, h2⟩ := ho2.own
 refine lw_op0 rfl rfl (ow_storeA (X := No) (R := (RArr 4 (RSlice RSpan))) rfl rfl rfl rfl h1 h2 (Tryd.sizeOf69 _) hv2 hm1 (.inl hg2) hC2 fun w3 ho3 hb3 hl3 hC3 => ?_)
 refine lw_nil (ew_then (cw_ret ?_))
 obtain rfl := Option.some.inj h
 obtain ⟨v3, hq1, hw1⟩ := resA ho3 (Tryd.sizeOf69 _) (Tryd.isAgg69 _) rfl
 exact ew_ret (res1 rfl (.cell rfl hq1)) ⟨_, rfl, (hw1.mono hC3.back), hC3.bx⟩

theorem w_impl_Packet_fields {w : World} {M : Nat → Prop} (_hG : ARep (RArr 4 RShape) w M shapes ⟨0, 0, none⟩) (hO : ∀ b, M b → b < w.heap.size) {v0p : Value} {a_p : Packet} (h0 : VRep RPacket w M a_p v0p) {r : (List Int)} (h : F.impl_Packet_fields a_p = some r) :
  Calls Tryd.prog 83 [v0p].toArray w fun e w' => ∃ v, e = .returned v ∧ VRep (RArr 4 RInt) w' M r v ∧ BX No w w' := by
 have hC : Cx No w M w M := Cx.start hO (fun _ e => e.elim)
 clear _hG
 refine walk (N := 12) Tryd.func83 rfl Tryd.ntmps83 rfl ?_
 refine cw_seq (cw_region (lw_op rfl rfl rfl (ow_box (R := RPacket) rfl rfl h0 hC fun p1 w1 hp1 hb1 hl1 hC1 => ?_)))
 refine lw_op rfl rfl rfl (ow_alloc rfl (Tryd.zeroValue91 _) hC1 fun g1 w2 hg1 hg2 ho1 hb2 hl2 hC2 => ?_)
 have hm1 : (Add g1 M) g1 := .inl rfl
 have ho2 : OwnA (RArr 4 RInt) w2 (Add g1 M) g1 91 [0, 0, 0, 0] := OwnA.of ho1 ⟨rfl, ⟨_, _, rfl, (vint _).cells, _, _, rfl, (vint _).cells, _, _, rfl, (vint _).cells, _, _, rfl, (vint _).cells, rfl⟩⟩
 refine lw_nil (ew_then (cw_seq (cw_region (lw_op rfl rfl rfl (ow_fieldAddr rfl rfl Tryd.underlying45 rfl (Tryd.sizeOf3 _) ?_)))))
 refine lw_op rfl rfl rfl (ow_load (R := RInt) rfl rfl (ARep.mono hl2 (hp1.fld fld_Packet_From)) (Tryd.sizeOf3 _) (Tryd.isAgg3 _) fun v1 hv1 => ?_)
 obtain rfl := vint_eq hv1
 refine lw_op rfl rfl rfl (ow_fieldAddr rfl rfl Tryd.underlying45 rfl (Tryd.sizeOf3 _) ?_)
 refine lw_op rfl rfl rfl (ow_load (R := RInt) rfl rfl (ARep.mono hl2 (hp1.fld fld_Packet_To)) (Tryd.sizeOf3 _) (Tryd.isAgg3 _) fun v2 hv2 => ?_)
 obtain rfl := vint_eq hv2
 refine lw_op rfl rfl rfl (ow_fieldAddr rfl rfl Tryd.underlying45 rfl (Tryd.sizeOf3 _) ?_)
 refine lw_op rfl rfl rfl (ow_load (R := RInt) rfl rfl (ARep.mono hl2 (hp1.fld fld_Packet_Port)) (Tryd.sizeOf3 _) (Tryd.isAgg3 _) fun v3 hv3 => ?_)
 obtain rfl := vint_eq hv3
 refine lw_op rfl rfl rfl (ow_fieldAddr rfl rfl Tryd.underlying45 rfl (Tryd.sizeOf3 _) ?_)
 refine lw_op rfl rfl rfl (ow_load (R := RInt) rfl rfl (ARep.mono hl2 (hp1.fld fld_Packet_Proto)) (Tryd.sizeOf3 _) (Tryd.isAgg3 _) fun v4 hv4 => ?_)
 obtain rfl := vint_eq hv4
 refine lw_op rfl rfl rfl (ow_build (v := .agg #[(.int .i64 a_p.From), (.int .i64 a_p.To), (.int .i64 a_p.Port), (.int .i64 a_p.Proto)]) rfl rfl (by kernel_rfl) ?_)
 have hw1 : VRep (RArr 4 RInt) w2 (Add g1 M) [a_p.From, a_p.To, a_p.Port, a_p.Proto] (.agg #[(.int .i64 a_p.From), (.int .i64 a_p.To), (.int .i64 a_p.Port), (.int .i64 a_p.Proto)]) := ⟨_, ⟨rfl, ⟨_, _, rfl, (vint _).cells, _, _, rfl, (vint _).cells, _, _, rfl, (vint _).cells, _, _, rfl, (vint _).cells, rfl⟩⟩, rfl⟩
 obtain ⟨cs1, h1, h2⟩ := ho2.own
 refine lw_op0 rfl rfl (ow_storeA (X := No) (R := (RArr 4 RInt)) rfl rfl rfl rfl h1 h2 (Tryd.sizeOf91 _) hw1 hm1 (.inl hg2) hC2 fun w3 ho3 hb3 hl3 hC3 => ?_)
 refine lw_nil (ew_then (cw_ret ?_))
 obtain rfl := Option.some.inj h
 obtain ⟨v5, hq1, hw2⟩ := resA ho3 (Tryd.sizeOf91 _) (Tryd.isAgg91 _) rfl
 exact ew_ret (res1 rfl (.cell rfl hq1)) ⟨_, rfl, (hw2.mono hC3.back), hC3.bx⟩

theorem w_impl_PacketValid {w : World} {M : Nat → Prop} (hG : ARep (RArr 4 RShape) w M shapes ⟨0, 0, none⟩) (hO : ∀ b, M b → b < w.heap.size) {v0p : Value} {a_p : Packet} (h0 : VRep RPacket w M a_p v0p) {r : Bool} (h : F.impl_PacketValid a_p = some r) :
  Calls Tryd.prog 70 [v0p].toArray w fun e w' => ∃ v, e = .returned v ∧ VRep RBool w' M r v ∧ BX No w w' := by
 have hC : Cx No w M w M := Cx.start hO (fun _ e => e.elim)
 refine walk (N := 20) Tryd.func70 rfl Tryd.ntmps70 rfl ?_
 refine cw_seq (cw_region (lw_op rfl rfl rfl (ow_box (R := RPacket) rfl rfl h0 hC fun p1 w1 hp1 hb1 hl1 hC1 => ?_)))
 refine lw_op rfl rfl rfl (ow_assign rfl rfl ?_)
 refine lw_nil (ew_then (cw_seq (cw_seq (cw_region (lw_op rfl rfl rfl (ow_load (R := RPacket) rfl rfl hp1 (Tryd.sizeOf45 _) (Tryd.isAgg45 _) fun v1 hv1 => ?_))))))
 replace h := bind_some h
 obtain ⟨x1, hx1, h⟩ := h
 refine lw_op rfl rfl rfl (ow_call rfl rfl Tryd.call83 (w_impl_Packet_fields (hG.mono hl1) hC1.old hv1 hx1) fun v2 w2 hv2 => ?_)
 obtain ⟨hv2, hb2⟩ := hv2
 have hl2 := Le.no M hb2
 have hC2 := hC1.no hb2
 refine lw_op rfl rfl rfl (ow_move rfl rfl ?_)
 refine lw_nil (ew_then ?_)
 replace h := bind_some h
 obtain ⟨lr1, hlr1, h⟩ := h
 refine cw_for hlr1 (fun s a w' => ∃ (M' : Nat → Prop), Fits 20 [(6, v2), (7, (.int .i64 s))] a ∧ Le w2 M w' M' ∧ Cx No w M w' M') ?_ ?_ ?_
 ·
  intro a ha
  exact ⟨M, ha.sub ⟨rfl, rfl, trivial⟩, Le.refl _ _, hC2⟩
 ·
  rintro k1 a w3 sr1 ⟨M1, hF1, hl3, hC3⟩ hb3 hR1
  refine cw_at (E := [(6, v2), (7, (.int .i64 k1))]) hF1 ?_
  refine cw_seq (cw_region (lw_op rfl rfl rfl (ow_lss rfl rfl rfl fun bb1 hbb1 => ?_)))
  refine lw_nil (ew_then (cw_seq ?_))
  replace hb3 := cond_some hb3
  rcases hb3 with ⟨hc1, hb3⟩ | ⟨hc1, hb3⟩
  ·
   obtain rfl := hbb1.trans hc1
   refine cw_true rfl ?_
   refine cw_skip (ew_then (cw_seq (cw_block ?_)))
   refine cw_seq (cw_region (lw_op rfl rfl rfl (ow_move rfl rfl ?_)))
   replace hb3 := bind_some hb3
   obtain ⟨x2, hx2, hb3⟩ := hb3
   refine lw_op rfl rfl rfl (ow_index (R := RInt) rfl rfl rfl (VRep.mono hl3 hv2) Tryd.underlying91 (Tryd.sizeOf3 _) (Tryd.isAgg3 _) hx2 fun v4 hv4 => ?_)
   obtain rfl := vint_eq hv4
   refine lw_op rfl rfl rfl (ow_assign rfl rfl ?_)
   refine lw_op rfl rfl rfl (ow_assign rfl rfl ?_)
   refine lw_nil (ew_then (cw_seq (cw_region (lw_op rfl rfl rfl (ow_move rfl rfl ?_)))))
   refine lw_op rfl rfl rfl (ow_lss rfl rfl rfl fun bb2 hbb2 => ?_)
   refine lw_op rfl rfl rfl (ow_move rfl rfl ?_)
   replace hb3 := cond_some hb3
   rcases hb3 with ⟨hc2, hb3⟩ | ⟨hc2, hb3⟩
   ·
    obtain rfl := hbb2.trans hc2
    refine lw_off rfl rfl rfl rfl rfl rfl ?_
    refine lw_off rfl rfl rfl rfl rfl rfl ?_
    refine lw_off rfl rfl rfl rfl rfl rfl ?_
    refine lw_off rfl rfl rfl rfl rfl rfl ?_
    refine lw_op rfl rfl rfl (ow_pickT rfl rfl rfl ?_)
    refine lw_nil (ew_then (cw_true rfl ?_))
    refine cw_seq (cw_region (lw_op rfl rfl rfl (ow_assign rfl rfl ?_)))
    refine lw_nil (ew_then (cw_ret (ew_blockR ?_)))
    refine ew_thenR (ew_thenR (ew_blockR ?_))
    refine ew_brkR ?_
    refine ew_thenR ?_
    have e1 := hR1 _ (Option.some.inj hb3).symm
    subst e1
    obtain rfl := Option.some.inj h
    exact ew_ret (res1 rfl (.tmp rfl)) ⟨_, rfl, ((vbool _)), hC3.bx⟩
   ·
    obtain rfl := hbb2.trans hc2
    refine lw_on rfl rfl rfl rfl rfl rfl (ow_move rfl rfl ?_)
    refine lw_on rfl rfl rfl rfl rfl rfl (ow_move rfl rfl ?_)
    replace hb3 := bind_some hb3
    obtain ⟨x3, hx3, hb3⟩ := hb3
    refine lw_on rfl rfl rfl rfl rfl rfl (ow_call rfl rfl Tryd.call69 (w_impl_FieldTop (hG.mono ((hl1.trans hl2).trans hl3)) hC3.old hx3) fun v5 w4 hv5 => ?_)
    obtain ⟨hv5, hb4⟩ := hv5
    have hl4 := Le.no M1 hb4
    have hC4 := hC3.no hb4
    obtain rfl := vint_eq hv5
    refine lw_on rfl rfl rfl rfl rfl rfl (ow_gtr rfl rfl rfl fun bb3 hbb3 => ?_)
    refine lw_op rfl rfl rfl (ow_pickF rfl rfl rfl ?_)
    refine lw_nil (ew_then ?_)
    replace hb3 := cond_some hb3
    rcases hb3 with ⟨hc3, hb3⟩ | ⟨hc3, hb3⟩
    ·
     obtain rfl := hbb3.trans hc3
     refine cw_true rfl ?_
     refine cw_seq (cw_region (lw_op rfl rfl rfl (ow_assign rfl rfl ?_)))
     refine lw_nil (ew_then (cw_ret (ew_blockR ?_)))
     refine ew_thenR (ew_thenR (ew_blockR ?_))
     refine ew_brkR ?_
     refine ew_thenR ?_
     have e2 := hR1 _ (Option.some.inj hb3).symm
     subst e2
     obtain rfl := Option.some.inj h
     exact ew_ret (res1 rfl (.tmp rfl)) ⟨_, rfl, ((vbool _)), hC4.bx⟩
    ·
     obtain rfl := hbb3.trans hc3
     refine cw_false rfl ?_
     refine cw_skip (ew_blockN ?_)
     refine ew_then (cw_region (lw_op rfl rfl rfl (ow_add rfl rfl rfl ?_)))
     refine lw_op rfl rfl rfl (ow_move rfl rfl ?_)
     refine lw_nil (ew_nxt (W (k1 + 1)) hb3 fun a ha => ⟨M1, ?_, (hl3.trans hl4), hC4⟩)
     exact ha.sub ⟨rfl, rfl, trivial⟩
  ·
   obtain rfl := hbb1.trans hc1
   refine cw_false rfl ?_
   refine cw_exit ?_
   refine ew_thenX ?_
   refine ew_thenX ?_
   refine ew_blockX ?_
   refine ew_brk k1 hb3 fun a ha => ⟨M1, ?_, hl3, hC3⟩
   exact ha.sub ⟨rfl, rfl, trivial⟩
 ·
  rintro k2 a w5 hlr2 ⟨M2, hF2, hl5, hC5⟩
  subst hlr2
  refine ew_at (E := [(6, v2), (7, (.int .i64 k2))]) hF2 ?_
  refine ew_then (cw_seq (cw_region (lw_op rfl rfl rfl (ow_assign rfl rfl ?_))))
  refine lw_nil (ew_then (cw_ret ?_))
  obtain rfl := Option.some.inj h
  exact ew_ret (res1 rfl (.tmp rfl)) ⟨_, rfl, ((vbool _)), hC5.bx⟩

theorem w_impl_sides_has {w : World} {M : Nat → Prop} (hG : ARep (RArr 4 RShape) w M shapes ⟨0, 0, none⟩) (hO : ∀ b, M b → b < w.heap.size) {v0p : Value} {a_s : List (List Span)} (h0 : VRep (RArr 4 (RSlice RSpan)) w M a_s v0p) {v1p : Value} {a_p : Packet} (h1 : VRep RPacket w M a_p v1p) {r : Bool} (h : F.impl_sides_has a_s a_p = some r) :
  Calls Tryd.prog 71 [v0p, v1p].toArray w fun e w' => ∃ v, e = .returned v ∧ VRep RBool w' M r v ∧ BX No w w' := by
 have hC : Cx No w M w M := Cx.start hO (fun _ e => e.elim)
 refine walk (N := 20) Tryd.func71 rfl Tryd.ntmps71 rfl ?_
 refine cw_seq (cw_region (lw_op rfl rfl rfl (ow_box (R := (RArr 4 (RSlice RSpan))) rfl rfl h0 hC fun p1 w1 hp1 hb1 hl1 hC1 => ?_)))
 refine lw_op rfl rfl rfl (ow_box (R := RPacket) rfl rfl (VRep.mono hl1 h1) hC1 fun p2 w2 hp2 hb2 hl2 hC2 => ?_)
 refine lw_op rfl rfl rfl (ow_assign rfl rfl ?_)
 refine lw_nil (ew_then (cw_seq (cw_seq (cw_region (lw_op rfl rfl rfl (ow_load (R := RPacket) rfl rfl hp2 (Tryd.sizeOf45 _) (Tryd.isAgg45 _) fun v1 hv1 => ?_))))))
 replace h := bind_some h
 obtain ⟨x1, hx1, h⟩ := h
 refine lw_op rfl rfl rfl (ow_call rfl rfl Tryd.call83 (w_impl_Packet_fields (hG.mono (hl1.trans hl2)) hC2.old hv1 hx1) fun v2 w3 hv2 => ?_)
 obtain ⟨hv2, hb3⟩ := hv2
 have hl3 := Le.no M hb3
 have hC3 := hC2.no hb3
 refine lw_op rfl rfl rfl (ow_move rfl rfl ?_)
 refine lw_nil (ew_then ?_)
 replace h := bind_some h
 obtain ⟨lr1, hlr1, h⟩ := h
 refine cw_for hlr1 (fun s a w' => ∃ (M' : Nat → Prop), Fits 20 [(2, (.pointer (some p1))), (8, v2), (9, (.int .i64 s))] a ∧ Le w3 M w' M' ∧ Cx No w M w' M') ?_ ?_ ?_
 ·
  intro a ha
  exact ⟨M, ha.sub ⟨rfl, rfl, rfl, trivial⟩, Le.refl _ _, hC3⟩
 ·
  rintro k1 a w4 sr1 ⟨M1, hF1, hl4, hC4⟩ hb4 hR1
  refine cw_at (E := [(2, (.pointer (some p1))), (8, v2), (9, (.int .i64 k1))]) hF1 ?_
  refine cw_seq (cw_region (lw_op rfl rfl rfl (ow_lss rfl rfl rfl fun bb1 hbb1 => ?_)))
  refine lw_nil (ew_then (cw_seq ?_))
  replace hb4 := cond_some hb4
  rcases hb4 with ⟨hc1, hb4⟩ | ⟨hc1, hb4⟩
  ·
   obtain rfl := hbb1.trans hc1
   refine cw_true rfl ?_
   refine cw_skip (ew_then (cw_seq (cw_block ?_)))
   refine cw_seq (cw_region (lw_op rfl rfl rfl (ow_move rfl rfl ?_)))
   replace hb4 := bind_some hb4
   obtain ⟨x2, hx2, hb4⟩ := hb4
   refine lw_op rfl rfl rfl (ow_index (R := RInt) rfl rfl rfl (VRep.mono hl4 hv2) Tryd.underlying91 (Tryd.sizeOf3 _) (Tryd.isAgg3 _) hx2 fun v4 hv4 => ?_)
   obtain rfl := vint_eq hv4
   refine lw_op rfl rfl rfl (ow_assign rfl rfl ?_)
   refine lw_op rfl rfl rfl (ow_assign rfl rfl ?_)
   refine lw_nil (ew_then (cw_seq (cw_region (lw_op rfl rfl rfl (ow_move rfl rfl ?_)))))
   replace hb4 := bind_some hb4
   obtain ⟨x3, hx3, hb4⟩ := hb4
   refine lw_op rfl rfl rfl (ow_indexArr (R := (RSlice RSpan)) rfl rfl rfl (ARep.mono ((hl2.trans hl3).trans hl4) hp1) Tryd.underlying69 (Tryd.sizeOf58 _) hx3 fun p3 hp3 => ?_)
   refine lw_op rfl rfl rfl (ow_load (R := (RSlice RSpan)) rfl rfl hp3 (Tryd.sizeOf58 _) (Tryd.isAgg58 _) fun v5 hv5 => ?_)
   refine lw_op rfl rfl rfl (ow_move rfl rfl ?_)
   replace hb4 := bind_some hb4
   obtain ⟨x4, hx4, hb4⟩ := hb4
   refine lw_op rfl rfl rfl (ow_call rfl rfl Tryd.call40 (w_impl_SpansHave (hG.mono (((hl1.trans hl2).trans hl3).trans hl4)) hC4.old hv5 hx4) fun v6 w5 hv6 => ?_)
   obtain ⟨hv6, hb5⟩ := hv6
   have hl5 := Le.no M1 hb5
   have hC5 := hC4.no hb5
   obtain rfl := vbool_eq hv6
   refine lw_op rfl rfl rfl (ow_not rfl rfl ?_)
   refine lw_nil (ew_then ?_)
   replace hb4 := cond_some hb4
   rcases hb4 with ⟨hc2, hb4⟩ | ⟨hc2, hb4⟩
   ·
    subst hc2
    refine cw_false rfl ?_
    refine cw_skip (ew_blockN ?_)
    refine ew_then (cw_region (lw_op rfl rfl rfl (ow_add rfl rfl rfl ?_)))
    refine lw_op rfl rfl rfl (ow_move rfl rfl ?_)
    refine lw_nil (ew_nxt (W (k1 + 1)) hb4 fun a ha => ⟨M1, ?_, (hl4.trans hl5), hC5⟩)
    exact ha.sub ⟨rfl, rfl, rfl, trivial⟩
   ·
    subst hc2
    refine cw_true rfl ?_
    refine cw_seq (cw_region (lw_op rfl rfl rfl (ow_assign rfl rfl ?_)))
    refine lw_nil (ew_then (cw_ret (ew_blockR ?_)))
    refine ew_thenR (ew_thenR (ew_blockR ?_))
    refine ew_brkR ?_
    refine ew_thenR ?_
    have e1 := hR1 _ (Option.some.inj hb4).symm
    subst e1
    obtain rfl := Option.some.inj h
    exact ew_ret (res1 rfl (.tmp rfl)) ⟨_, rfl, ((vbool _)), hC5.bx⟩
  ·
   obtain rfl := hbb1.trans hc1
   refine cw_false rfl ?_
   refine cw_exit ?_
   refine ew_thenX ?_
   refine ew_thenX ?_
   refine ew_blockX ?_
   refine ew_brk k1 hb4 fun a ha => ⟨M1, ?_, hl4, hC4⟩
   exact ha.sub ⟨rfl, rfl, rfl, trivial⟩
 ·
  rintro k2 a w6 hlr2 ⟨M2, hF2, hl6, hC6⟩
  subst hlr2
  refine ew_at (E := [(2, (.pointer (some p1))), (8, v2), (9, (.int .i64 k2))]) hF2 ?_
  refine ew_then (cw_seq (cw_region (lw_op rfl rfl rfl (ow_assign rfl rfl ?_))))
  refine lw_nil (ew_then (cw_ret ?_))
  obtain rfl := Option.some.inj h
  exact ew_ret (res1 rfl (.tmp rfl)) ⟨_, rfl, ((vbool _)), hC6.bx⟩

theorem w_impl_BoxHas {w : World} {M : Nat → Prop} (hG : ARep (RArr 4 RShape) w M shapes ⟨0, 0, none⟩) (hO : ∀ b, M b → b < w.heap.size) {v0p : Value} {a_b : Box} (h0 : VRep RBox w M a_b v0p) {v1p : Value} {a_p : Packet} (h1 : VRep RPacket w M a_p v1p) {r : Bool} (h : F.impl_BoxHas a_b a_p = some r) :
  Calls Tryd.prog 31 [v0p, v1p].toArray w fun e w' => ∃ v, e = .returned v ∧ VRep RBool w' M r v ∧ BX No w w' := by
 have hC : Cx No w M w M := Cx.start hO (fun _ e => e.elim)
 refine walk (N := 17) Tryd.func31 rfl Tryd.ntmps31 rfl ?_
 refine cw_seq (cw_region (lw_op rfl rfl rfl (ow_box (R := RBox) rfl rfl h0 hC fun p1 w1 hp1 hb1 hl1 hC1 => ?_)))
 refine lw_op rfl rfl rfl (ow_box (R := RPacket) rfl rfl (VRep.mono hl1 h1) hC1 fun p2 w2 hp2 hb2 hl2 hC2 => ?_)
 refine lw_op rfl rfl rfl (ow_assign rfl rfl ?_)
 refine lw_nil (ew_then (cw_seq ?_))
 replace h := bind_some h
 obtain ⟨x1, hx1, h⟩ := h
 replace h := cond_some h
 rcases h with ⟨hc1, h⟩ | ⟨hc1, h⟩
 ·
  subst hc1
  replace h := bind_some h
  obtain ⟨x2, hx2, h⟩ := h
  replace h := cond_some h
  rcases h with ⟨hc2, h⟩ | ⟨hc2, h⟩
  ·
   subst hc2
   replace h := bind_some h
   obtain ⟨x3, hx3, h⟩ := h
   refine cw_sub (E' := [(2, (.pointer (some p1))), (3, (.pointer (some p2))), (4, (.bool false))]) ⟨rfl, rfl, rfl, trivial⟩ ?_
   refine cw_drawQ 10 [PV RBox M a_b, PEq (.bool true), PEq (.bool true), PV RPacket M a_p, PEq (.bool true), PEq (.bool true), PEq (.bool true), PV RBox M a_b, PV (RArr 4 (RSlice RSpan)) M x3, PV RPacket M a_p] (by kernel_rfl) rfl (by kernel_rfl) ⟨PV.mono _ _ _, PEq.mono _, PEq.mono _, PV.mono _ _ _, PEq.mono _, PEq.mono _, PEq.mono _, PV.mono _ _ _, PV.mono _ _ _, PV.mono _ _ _, trivial⟩ ⟨?_, ?_, ?_, ?_, ?_, ?_, ?_, ?_, ?_, ?_, trivial⟩ ?_
   ·
    intro w6 D hS1 hd1
    have hl6 := Le.no M hS1
    have hC6 := hC2.no hS1
    refine dg_sub (E' := [(2, (.pointer (some p1)))]) ⟨rfl, trivial⟩ ?_
    refine dg_plain rfl (ow_load (R := RBox) rfl rfl (ARep.mono (hl2.trans hl6) hp1) (Tryd.sizeOf27 _) (Tryd.isAgg27 _) fun v8 hv8 => ?_)
    exact ⟨BX.refl _ _, hv8⟩
   ·
    intro w7 D hS2 hd2
    have hl7 := Le.no M hS2
    have hC7 := hC2.no hS2
    have hd2 : PV RBox M a_b (D 0) w7 ∧ True := hd2
    obtain ⟨d1, -⟩ := hd2
    obtain ⟨v9, hq1⟩ : ∃ v, (D 0) = v := ⟨_, rfl⟩
    rw [hq1] at d1
    refine dg_sub (E' := [(5, v9)]) ⟨(congrArg some hq1), trivial⟩ ?_
    refine dg_plain rfl (ow_call rfl rfl Tryd.call30 (w_impl_BoxValid (hG.mono ((hl1.trans hl2).trans hl7)) hC7.old d1 hx1) fun v10 w8 hv10 => ?_)
    obtain ⟨hv10, hb6⟩ := hv10
    have hl8 := Le.no M hb6
    have hC8 := hC7.no hb6
    obtain rfl := vbool_eq hv10
    exact ⟨hb6, rfl⟩
   ·
    intro w9 D hS3 hd3
    have hl9 := Le.no M hS3
    have hC9 := hC2.no hS3
    have hd3 : PEq (.bool true) (D 1) w9 ∧ PEq (.bool true) (D 1) w9 ∧ True := hd3
    obtain ⟨d2, d3, -⟩ := hd3
    refine dg_sub (E' := [(6, (.bool true))]) ⟨(congrArg some d2), trivial⟩ ?_
    refine dg_plain rfl (ow_move rfl rfl ?_)
    exact ⟨BX.refl _ _, rfl⟩
   ·
    intro w10 D hS4 hd4
    have hl10 := Le.no M hS4
    have hC10 := hC2.no hS4
    have hd4 : PEq (.bool true) (D 2) w10 ∧ True := hd4
    obtain ⟨d4, -⟩ := hd4
    refine dg_sub (E' := [(7, (.bool true)), (3, (.pointer (some p2)))]) ⟨(congrArg some d4), rfl, trivial⟩ ?_
    refine dg_on rfl rfl rfl rfl (ow_load (R := RPacket) rfl rfl (ARep.mono hl10 hp2) (Tryd.sizeOf45 _) (Tryd.isAgg45 _) fun v11 hv11 => ?_)
    exact ⟨BX.refl _ _, hv11⟩
   ·
    intro w11 D hS5 hd5
    have hl11 := Le.no M hS5
    have hC11 := hC2.no hS5
    have hd5 : PV RPacket M a_p (D 3) w11 ∧ PEq (.bool true) (D 2) w11 ∧ PEq (.bool true) (D 2) w11 ∧ True := hd5
    obtain ⟨d5, d6, d7, -⟩ := hd5
    obtain ⟨v12, hq2⟩ : ∃ v, (D 3) = v := ⟨_, rfl⟩
    rw [hq2] at d5
    refine dg_sub (E' := [(8, v12), (7, (.bool true))]) ⟨(congrArg some hq2), (congrArg some d6), trivial⟩ ?_
    refine dg_on rfl rfl rfl rfl (ow_call rfl rfl Tryd.call70 (w_impl_PacketValid (hG.mono ((hl1.trans hl2).trans hl11)) hC11.old d5 hx2) fun v13 w12 hv13 => ?_)
    obtain ⟨hv13, hb7⟩ := hv13
    have hl12 := Le.no M hb7
    have hC12 := hC11.no hb7
    obtain rfl := vbool_eq hv13
    exact ⟨hb7, rfl⟩
   ·
    intro w13 D hS6 hd6
    have hl13 := Le.no M hS6
    have hC13 := hC2.no hS6
    have hd6 : PEq (.bool true) (D 2) w13 ∧ PEq (.bool true) (D 4) w13 ∧ True := hd6
    obtain ⟨d8, d9, -⟩ := hd6
    refine dg_sub (E' := [(7, (.bool true)), (9, (.bool true))]) ⟨(congrArg some d8), (congrArg some d9), trivial⟩ ?_
    refine dg_plain rfl (ow_pickT rfl rfl rfl ?_)
    exact ⟨BX.refl _ _, rfl⟩
   ·
    intro w14 D hS7 hd7
    have hl14 := Le.no M hS7
    have hC14 := hC2.no hS7
    have hd7 : PEq (.bool true) (D 5) w14 ∧ PEq (.bool true) (D 4) w14 ∧ True := hd7
    obtain ⟨d10, d11, -⟩ := hd7
    refine dg_sub (E' := [(10, (.bool true))]) ⟨(congrArg some d10), trivial⟩ ?_
    refine dg_plain rfl (ow_move rfl rfl ?_)
    exact ⟨BX.refl _ _, rfl⟩
   ·
    intro w15 D hS8 hd8
    have hl15 := Le.no M hS8
    have hC15 := hC2.no hS8
    have hd8 : PEq (.bool true) (D 6) w15 ∧ True := hd8
    obtain ⟨d12, -⟩ := hd8
    refine dg_sub (E' := [(11, (.bool true)), (2, (.pointer (some p1)))]) ⟨(congrArg some d12), rfl, trivial⟩ ?_
    refine dg_on rfl rfl rfl rfl (ow_load (R := RBox) rfl rfl (ARep.mono (hl2.trans hl15) hp1) (Tryd.sizeOf27 _) (Tryd.isAgg27 _) fun v14 hv14 => ?_)
    exact ⟨BX.refl _ _, hv14⟩
   ·
    intro w16 D hS9 hd9
    have hl16 := Le.no M hS9
    have hC16 := hC2.no hS9
    have hd9 : PV RBox M a_b (D 7) w16 ∧ PEq (.bool true) (D 6) w16 ∧ PEq (.bool true) (D 6) w16 ∧ True := hd9
    obtain ⟨d13, d14, d15, -⟩ := hd9
    obtain ⟨v15, hq3⟩ : ∃ v, (D 7) = v := ⟨_, rfl⟩
    rw [hq3] at d13
    refine dg_sub (E' := [(12, v15), (11, (.bool true))]) ⟨(congrArg some hq3), (congrArg some d14), trivial⟩ ?_
    refine dg_on rfl rfl rfl rfl (ow_call rfl rfl Tryd.call65 (w_impl_sidesOf (hG.mono ((hl1.trans hl2).trans hl16)) hC16.old d13 hx3) fun v16 w17 hv16 => ?_)
    obtain ⟨hv16, hb8⟩ := hv16
    have hl17 := Le.no M hb8
    have hC17 := hC16.no hb8
    exact ⟨hb8, hv16⟩
   ·
    intro w18 D hS10 hd10
    have hl18 := Le.no M hS10
    have hC18 := hC2.no hS10
    have hd10 : PEq (.bool true) (D 6) w18 ∧ True := hd10
    obtain ⟨d16, -⟩ := hd10
    refine dg_sub (E' := [(11, (.bool true)), (3, (.pointer (some p2)))]) ⟨(congrArg some d16), rfl, trivial⟩ ?_
    refine dg_on rfl rfl rfl rfl (ow_load (R := RPacket) rfl rfl (ARep.mono hl18 hp2) (Tryd.sizeOf45 _) (Tryd.isAgg45 _) fun v17 hv17 => ?_)
    exact ⟨BX.refl _ _, hv17⟩
   ·
    intro w19 D hS11 hd11
    have hd11 : PV RBox M a_b (D 0) w19 ∧ PEq (.bool true) (D 1) w19 ∧ PEq (.bool true) (D 2) w19 ∧ PV RPacket M a_p (D 3) w19 ∧ PEq (.bool true) (D 4) w19 ∧ PEq (.bool true) (D 5) w19 ∧ PEq (.bool true) (D 6) w19 ∧ PV RBox M a_b (D 7) w19 ∧ PV (RArr 4 (RSlice RSpan)) M x3 (D 8) w19 ∧ PV RPacket M a_p (D 9) w19 ∧ True := hd11
    obtain ⟨-, -, -, -, -, -, d23, -, d25, d26, -⟩ := hd11
    have hl19 := Le.no M hS11
    have hC19 := hC2.no hS11
    obtain ⟨v18, hq4⟩ : ∃ v, (D 8) = v := ⟨_, rfl⟩
    rw [hq4] at d25
    obtain ⟨v19, hq5⟩ : ∃ v, (D 9) = v := ⟨_, rfl⟩
    rw [hq5] at d26
    refine lw_sub (E' := [(11, (.bool true)), (13, v18), (14, v19), (2, (.pointer (some p1))), (3, (.pointer (some p2))), (4, (.bool false))]) ⟨(congrArg some d23), (congrArg some hq4), (congrArg some hq5), rfl, rfl, rfl, trivial⟩ ?_
    replace h := bind_some h
    obtain ⟨x4, hx4, h⟩ := h
    refine lw_on rfl rfl rfl rfl rfl rfl (ow_call rfl rfl Tryd.call71 (w_impl_sides_has (hG.mono ((hl1.trans hl2).trans hl19)) hC19.old d25 d26 hx4) fun v20 w20 hv20 => ?_)
    obtain ⟨hv20, hb9⟩ := hv20
    have hl20 := Le.no M hb9
    have hC20 := hC19.no hb9
    obtain rfl := vbool_eq hv20
    refine lw_op rfl rfl rfl (ow_pickT rfl rfl rfl ?_)
    refine lw_op rfl rfl rfl (ow_assign rfl rfl ?_)
    refine lw_nil (ew_then (cw_ret ?_))
    obtain rfl := Option.some.inj h
    exact ew_ret (res1 rfl (.tmp rfl)) ⟨_, rfl, ((vbool _)), hC20.bx⟩
  ·
   subst hc2
   refine cw_sub (E' := [(2, (.pointer (some p1))), (3, (.pointer (some p2))), (4, (.bool false))]) ⟨rfl, rfl, rfl, trivial⟩ ?_
   refine cw_drawQ 10 [PV RBox M a_b, PEq (.bool true), PEq (.bool true), PV RPacket M a_p, PEq (.bool false), PEq (.bool false), PEq (.bool false), PEq undef, PEq undef, PEq undef] (by kernel_rfl) rfl (by kernel_rfl) ⟨PV.mono _ _ _, PEq.mono _, PEq.mono _, PV.mono _ _ _, PEq.mono _, PEq.mono _, PEq.mono _, PEq.mono _, PEq.mono _, PEq.mono _, trivial⟩ ⟨?_, ?_, ?_, ?_, ?_, ?_, ?_, ?_, ?_, ?_, trivial⟩ ?_
   ·
    intro w21 D hS12 hd12
    have hl21 := Le.no M hS12
    have hC21 := hC2.no hS12
    refine dg_sub (E' := [(2, (.pointer (some p1)))]) ⟨rfl, trivial⟩ ?_
    refine dg_plain rfl (ow_load (R := RBox) rfl rfl (ARep.mono (hl2.trans hl21) hp1) (Tryd.sizeOf27 _) (Tryd.isAgg27 _) fun v21 hv21 => ?_)
    exact ⟨BX.refl _ _, hv21⟩
   ·
    intro w22 D hS13 hd13
    have hl22 := Le.no M hS13
    have hC22 := hC2.no hS13
    have hd13 : PV RBox M a_b (D 0) w22 ∧ True := hd13
    obtain ⟨d27, -⟩ := hd13
    obtain ⟨v22, hq6⟩ : ∃ v, (D 0) = v := ⟨_, rfl⟩
    rw [hq6] at d27
    refine dg_sub (E' := [(5, v22)]) ⟨(congrArg some hq6), trivial⟩ ?_
    refine dg_plain rfl (ow_call rfl rfl Tryd.call30 (w_impl_BoxValid (hG.mono ((hl1.trans hl2).trans hl22)) hC22.old d27 hx1) fun v23 w23 hv23 => ?_)
    obtain ⟨hv23, hb10⟩ := hv23
    have hl23 := Le.no M hb10
    have hC23 := hC22.no hb10
    obtain rfl := vbool_eq hv23
    exact ⟨hb10, rfl⟩
   ·
    intro w24 D hS14 hd14
    have hl24 := Le.no M hS14
    have hC24 := hC2.no hS14
    have hd14 : PEq (.bool true) (D 1) w24 ∧ PEq (.bool true) (D 1) w24 ∧ True := hd14
    obtain ⟨d28, d29, -⟩ := hd14
    refine dg_sub (E' := [(6, (.bool true))]) ⟨(congrArg some d28), trivial⟩ ?_
    refine dg_plain rfl (ow_move rfl rfl ?_)
    exact ⟨BX.refl _ _, rfl⟩
   ·
    intro w25 D hS15 hd15
    have hl25 := Le.no M hS15
    have hC25 := hC2.no hS15
    have hd15 : PEq (.bool true) (D 2) w25 ∧ True := hd15
    obtain ⟨d30, -⟩ := hd15
    refine dg_sub (E' := [(7, (.bool true)), (3, (.pointer (some p2)))]) ⟨(congrArg some d30), rfl, trivial⟩ ?_
    refine dg_on rfl rfl rfl rfl (ow_load (R := RPacket) rfl rfl (ARep.mono hl25 hp2) (Tryd.sizeOf45 _) (Tryd.isAgg45 _) fun v24 hv24 => ?_)
    exact ⟨BX.refl _ _, hv24⟩
   ·
    intro w26 D hS16 hd16
    have hl26 := Le.no M hS16
    have hC26 := hC2.no hS16
    have hd16 : PV RPacket M a_p (D 3) w26 ∧ PEq (.bool true) (D 2) w26 ∧ PEq (.bool true) (D 2) w26 ∧ True := hd16
    obtain ⟨d31, d32, d33, -⟩ := hd16
    obtain ⟨v25, hq7⟩ : ∃ v, (D 3) = v := ⟨_, rfl⟩
    rw [hq7] at d31
    refine dg_sub (E' := [(8, v25), (7, (.bool true))]) ⟨(congrArg some hq7), (congrArg some d32), trivial⟩ ?_
    refine dg_on rfl rfl rfl rfl (ow_call rfl rfl Tryd.call70 (w_impl_PacketValid (hG.mono ((hl1.trans hl2).trans hl26)) hC26.old d31 hx2) fun v26 w27 hv26 => ?_)
    obtain ⟨hv26, hb11⟩ := hv26
    have hl27 := Le.no M hb11
    have hC27 := hC26.no hb11
    obtain rfl := vbool_eq hv26
    exact ⟨hb11, rfl⟩
   ·
    intro w28 D hS17 hd17
    have hl28 := Le.no M hS17
    have hC28 := hC2.no hS17
    have hd17 : PEq (.bool true) (D 2) w28 ∧ PEq (.bool false) (D 4) w28 ∧ True := hd17
    obtain ⟨d34, d35, -⟩ := hd17
    refine dg_sub (E' := [(7, (.bool true)), (9, (.bool false))]) ⟨(congrArg some d34), (congrArg some d35), trivial⟩ ?_
    refine dg_plain rfl (ow_pickT rfl rfl rfl ?_)
    exact ⟨BX.refl _ _, rfl⟩
   ·
    intro w29 D hS18 hd18
    have hl29 := Le.no M hS18
    have hC29 := hC2.no hS18
    have hd18 : PEq (.bool false) (D 5) w29 ∧ PEq (.bool false) (D 4) w29 ∧ True := hd18
    obtain ⟨d36, d37, -⟩ := hd18
    refine dg_sub (E' := [(10, (.bool false))]) ⟨(congrArg some d36), trivial⟩ ?_
    refine dg_plain rfl (ow_move rfl rfl ?_)
    exact ⟨BX.refl _ _, rfl⟩
   ·
    intro w30 D hS19 hd19
    have hl30 := Le.no M hS19
    have hC30 := hC2.no hS19
    have hd19 : PEq (.bool false) (D 6) w30 ∧ True := hd19
    obtain ⟨d38, -⟩ := hd19
    refine dg_sub (E' := [(11, (.bool false)), (2, (.pointer (some p1)))]) ⟨(congrArg some d38), rfl, trivial⟩ ?_
    exact dg_off rfl rfl rfl rfl ⟨BX.refl _ _, rfl⟩
   ·
    intro w31 D hS20 hd20
    have hl31 := Le.no M hS20
    have hC31 := hC2.no hS20
    have hd20 : PEq undef (D 7) w31 ∧ PEq (.bool false) (D 6) w31 ∧ PEq (.bool false) (D 6) w31 ∧ True := hd20
    obtain ⟨d39, d40, d41, -⟩ := hd20
    refine dg_sub (E' := [(12, undef), (11, (.bool false))]) ⟨(congrArg some d39), (congrArg some d40), trivial⟩ ?_
    exact dg_off rfl rfl rfl rfl ⟨BX.refl _ _, rfl⟩
   ·
    intro w32 D hS21 hd21
    have hl32 := Le.no M hS21
    have hC32 := hC2.no hS21
    have hd21 : PEq (.bool false) (D 6) w32 ∧ True := hd21
    obtain ⟨d42, -⟩ := hd21
    refine dg_sub (E' := [(11, (.bool false)), (3, (.pointer (some p2)))]) ⟨(congrArg some d42), rfl, trivial⟩ ?_
    exact dg_off rfl rfl rfl rfl ⟨BX.refl _ _, rfl⟩
   ·
    intro w33 D hS22 hd22
    have hd22 : PV RBox M a_b (D 0) w33 ∧ PEq (.bool true) (D 1) w33 ∧ PEq (.bool true) (D 2) w33 ∧ PV RPacket M a_p (D 3) w33 ∧ PEq (.bool false) (D 4) w33 ∧ PEq (.bool false) (D 5) w33 ∧ PEq (.bool false) (D 6) w33 ∧ PEq undef (D 7) w33 ∧ PEq undef (D 8) w33 ∧ PEq undef (D 9) w33 ∧ True := hd22
    obtain ⟨-, -, -, -, -, -, d49, -, d51, d52, -⟩ := hd22
    have hl33 := Le.no M hS22
    have hC33 := hC2.no hS22
    refine lw_sub (E' := [(11, (.bool false)), (13, undef), (14, undef), (2, (.pointer (some p1))), (3, (.pointer (some p2))), (4, (.bool false))]) ⟨(congrArg some d49), (congrArg some d51), (congrArg some d52), rfl, rfl, rfl, trivial⟩ ?_
    refine lw_off rfl rfl rfl rfl rfl rfl ?_
    refine lw_op rfl rfl rfl (ow_pickF rfl rfl rfl ?_)
    refine lw_op rfl rfl rfl (ow_assign rfl rfl ?_)
    refine lw_nil (ew_then (cw_ret ?_))
    obtain rfl := Option.some.inj h
    exact ew_ret (res1 rfl (.tmp rfl)) ⟨_, rfl, ((vbool _)), hC33.bx⟩
 ·
  subst hc1
  refine cw_sub (E' := [(2, (.pointer (some p1))), (3, (.pointer (some p2))), (4, (.bool false))]) ⟨rfl, rfl, rfl, trivial⟩ ?_
  refine cw_drawQ 10 [PV RBox M a_b, PEq (.bool false), PEq (.bool false), PEq undef, PEq undef, PEq (.bool false), PEq (.bool false), PEq undef, PEq undef, PEq undef] (by kernel_rfl) rfl (by kernel_rfl) ⟨PV.mono _ _ _, PEq.mono _, PEq.mono _, PEq.mono _, PEq.mono _, PEq.mono _, PEq.mono _, PEq.mono _, PEq.mono _, PEq.mono _, trivial⟩ ⟨?_, ?_, ?_, ?_, ?_, ?_, ?_, ?_, ?_, ?_, trivial⟩ ?_
  ·
   intro w34 D hS23 hd23
   have hl34 := Le.no M hS23
   have hC34 := hC2.no hS23
   refine dg_sub (E' := [(2, (.pointer (some p1)))]) ⟨rfl, trivial⟩ ?_
   refine dg_plain rfl (ow_load (R := RBox) rfl rfl (ARep.mono (hl2.trans hl34) hp1) (Tryd.sizeOf27 _) (Tryd.isAgg27 _) fun v27 hv27 => ?_)
   exact ⟨BX.refl _ _, hv27⟩
  ·
   intro w35 D hS24 hd24
   have hl35 := Le.no M hS24
   have hC35 := hC2.no hS24
   have hd24 : PV RBox M a_b (D 0) w35 ∧ True := hd24
   obtain ⟨d53, -⟩ := hd24
   obtain ⟨v28, hq8⟩ : ∃ v, (D 0) = v := ⟨_, rfl⟩
   rw [hq8] at d53
   refine dg_sub (E' := [(5, v28)]) ⟨(congrArg some hq8), trivial⟩ ?_
   refine dg_plain rfl (ow_call rfl rfl Tryd.call30 (w_impl_BoxValid (hG.mono ((hl1.trans hl2).trans hl35)) hC35.old d53 hx1) fun v29 w36 hv29 => ?_)
   obtain ⟨hv29, hb12⟩ := hv29
   have hl36 := Le.no M hb12
   have hC36 := hC35.no hb12
   obtain rfl := vbool_eq hv29
   exact ⟨hb12, rfl⟩
  ·
   intro w37 D hS25 hd25
   have hl37 := Le.no M hS25
   have hC37 := hC2.no hS25
   have hd25 : PEq (.bool false) (D 1) w37 ∧ PEq (.bool false) (D 1) w37 ∧ True := hd25
   obtain ⟨d54, d55, -⟩ := hd25
   refine dg_sub (E' := [(6, (.bool false))]) ⟨(congrArg some d54), trivial⟩ ?_
   refine dg_plain rfl (ow_move rfl rfl ?_)
   exact ⟨BX.refl _ _, rfl⟩
  ·
   intro w38 D hS26 hd26
   have hl38 := Le.no M hS26
   have hC38 := hC2.no hS26
   have hd26 : PEq (.bool false) (D 2) w38 ∧ True := hd26
   obtain ⟨d56, -⟩ := hd26
   refine dg_sub (E' := [(7, (.bool false)), (3, (.pointer (some p2)))]) ⟨(congrArg some d56), rfl, trivial⟩ ?_
   exact dg_off rfl rfl rfl rfl ⟨BX.refl _ _, rfl⟩
  ·
   intro w39 D hS27 hd27
   have hl39 := Le.no M hS27
   have hC39 := hC2.no hS27
   have hd27 : PEq undef (D 3) w39 ∧ PEq (.bool false) (D 2) w39 ∧ PEq (.bool false) (D 2) w39 ∧ True := hd27
   obtain ⟨d57, d58, d59, -⟩ := hd27
   refine dg_sub (E' := [(8, undef), (7, (.bool false))]) ⟨(congrArg some d57), (congrArg some d58), trivial⟩ ?_
   exact dg_off rfl rfl rfl rfl ⟨BX.refl _ _, rfl⟩
  ·
   intro w40 D hS28 hd28
   have hl40 := Le.no M hS28
   have hC40 := hC2.no hS28
   have hd28 : PEq (.bool false) (D 2) w40 ∧ PEq undef (D 4) w40 ∧ True := hd28
   obtain ⟨d60, d61, -⟩ := hd28
   refine dg_sub (E' := [(7, (.bool false)), (9, undef)]) ⟨(congrArg some d60), (congrArg some d61), trivial⟩ ?_
   refine dg_plain rfl (ow_pickF rfl rfl rfl ?_)
   exact ⟨BX.refl _ _, rfl⟩
  ·
   intro w41 D hS29 hd29
   have hl41 := Le.no M hS29
   have hC41 := hC2.no hS29
   have hd29 : PEq (.bool false) (D 5) w41 ∧ PEq undef (D 4) w41 ∧ True := hd29
   obtain ⟨d62, d63, -⟩ := hd29
   refine dg_sub (E' := [(10, (.bool false))]) ⟨(congrArg some d62), trivial⟩ ?_
   refine dg_plain rfl (ow_move rfl rfl ?_)
   exact ⟨BX.refl _ _, rfl⟩
  ·
   intro w42 D hS30 hd30
   have hl42 := Le.no M hS30
   have hC42 := hC2.no hS30
   have hd30 : PEq (.bool false) (D 6) w42 ∧ True := hd30
   obtain ⟨d64, -⟩ := hd30
   refine dg_sub (E' := [(11, (.bool false)), (2, (.pointer (some p1)))]) ⟨(congrArg some d64), rfl, trivial⟩ ?_
   exact dg_off rfl rfl rfl rfl ⟨BX.refl _ _, rfl⟩
  ·
   intro w43 D hS31 hd31
   have hl43 := Le.no M hS31
   have hC43 := hC2.no hS31
   have hd31 : PEq undef (D 7) w43 ∧ PEq (.bool false) (D 6) w43 ∧ PEq (.bool false) (D 6) w43 ∧ True := hd31
   obtain ⟨d65, d66, d67, -⟩ := hd31
   refine dg_sub (E' := [(12, undef), (11, (.bool false))]) ⟨(congrArg some d65), (congrArg some d66), trivial⟩ ?_
   exact dg_off rfl rfl rfl rfl ⟨BX.refl _ _, rfl⟩
  ·
   intro w44 D hS32 hd32
   have hl44 := Le.no M hS32
   have hC44 := hC2.no hS32
   have hd32 : PEq (.bool false) (D 6) w44 ∧ True := hd32
   obtain ⟨d68, -⟩ := hd32
   refine dg_sub (E' := [(11, (.bool false)), (3, (.pointer (some p2)))]) ⟨(congrArg some d68), rfl, trivial⟩ ?_
   exact dg_off rfl rfl rfl rfl ⟨BX.refl _ _, rfl⟩
  ·
   intro w45 D hS33 hd33
   have hd33 : PV RBox M a_b (D 0) w45 ∧ PEq (.bool false) (D 1) w45 ∧ PEq (.bool false) (D 2) w45 ∧ PEq undef (D 3) w45 ∧ PEq undef (D 4) w45 ∧ PEq (.bool false) (D 5) w45 ∧ PEq (.bool false) (D 6) w45 ∧ PEq undef (D 7) w45 ∧ PEq undef (D 8) w45 ∧ PEq undef (D 9) w45 ∧ True := hd33
   obtain ⟨-, -, -, -, -, -, d75, -, d77, d78, -⟩ := hd33
   have hl45 := Le.no M hS33
   have hC45 := hC2.no hS33
   refine lw_sub (E' := [(11, (.bool false)), (13, undef), (14, undef), (2, (.pointer (some p1))), (3, (.pointer (some p2))), (4, (.bool false))]) ⟨(congrArg some d75), (congrArg some d77), (congrArg some d78), rfl, rfl, rfl, trivial⟩ ?_
   refine lw_off rfl rfl rfl rfl rfl rfl ?_
   refine lw_op rfl rfl rfl (ow_pickF rfl rfl rfl ?_)
   refine lw_op rfl rfl rfl (ow_assign rfl rfl ?_)
   refine lw_nil (ew_then (cw_ret ?_))
   obtain rfl := Option.some.inj h
   exact ew_ret (res1 rfl (.tmp rfl)) ⟨_, rfl, ((vbool _)), hC45.bx⟩

theorem w_impl_Test_holds {w : World} {M : Nat → Prop} (hG : ARep (RArr 4 RShape) w M shapes ⟨0, 0, none⟩) (hO : ∀ b, M b → b < w.heap.size) {v0p : Value} {a_t : Test} (h0 : VRep RTest w M a_t v0p) {v1p : Value} {a_p : Packet} (h1 : VRep RPacket w M a_p v1p) {r : Bool} (h : F.impl_Test_holds a_t a_p = some r) :
  Calls Tryd.prog 102 [v0p, v1p].toArray w fun e w' => ∃ v, e = .returned v ∧ VRep RBool w' M r v ∧ BX No w w' := by
 have hC : Cx No w M w M := Cx.start hO (fun _ e => e.elim)
 refine walk (N := 26) Tryd.func102 rfl Tryd.ntmps102 rfl ?_
 refine cw_seq (cw_region (lw_op rfl rfl rfl (ow_box (R := RTest) rfl rfl h0 hC fun p1 w1 hp1 hb1 hl1 hC1 => ?_)))
 refine lw_op rfl rfl rfl (ow_box (R := RPacket) rfl rfl (VRep.mono hl1 h1) hC1 fun p2 w2 hp2 hb2 hl2 hC2 => ?_)
 refine lw_op rfl rfl rfl (ow_assign rfl rfl ?_)
 refine lw_nil (ew_then (cw_seq ?_))
 replace h := bind_some h
 obtain ⟨x1, hx1, h⟩ := h
 refine cw_sub (E' := [(2, (.pointer (some p1))), (3, (.pointer (some p2))), (4, (.bool false))]) ⟨rfl, rfl, rfl, trivial⟩ ?_
 refine cw_drawQ 4 [PV RPacket M a_p, PV (RArr 4 RInt) M x1, PA RInt M a_t.Field, PEq (.int .i64 a_t.Field)] (by kernel_rfl) rfl (by kernel_rfl) ⟨PV.mono _ _ _, PV.mono _ _ _, PA.mono _ _ _, PEq.mono _, trivial⟩ ⟨?_, ?_, ?_, ?_, trivial⟩ ?_
 ·
  intro w4 D hS1 hd1
  have hl4 := Le.no M hS1
  have hC4 := hC2.no hS1
  refine dg_sub (E' := [(3, (.pointer (some p2)))]) ⟨rfl, trivial⟩ ?_
  refine dg_plain rfl (ow_load (R := RPacket) rfl rfl (ARep.mono hl4 hp2) (Tryd.sizeOf45 _) (Tryd.isAgg45 _) fun v4 hv4 => ?_)
  exact ⟨BX.refl _ _, hv4⟩
 ·
  intro w5 D hS2 hd2
  have hl5 := Le.no M hS2
  have hC5 := hC2.no hS2
  have hd2 : PV RPacket M a_p (D 0) w5 ∧ True := hd2
  obtain ⟨d1, -⟩ := hd2
  obtain ⟨v5, hq1⟩ : ∃ v, (D 0) = v := ⟨_, rfl⟩
  rw [hq1] at d1
  refine dg_sub (E' := [(7, v5)]) ⟨(congrArg some hq1), trivial⟩ ?_
  refine dg_plain rfl (ow_call rfl rfl Tryd.call83 (w_impl_Packet_fields (hG.mono ((hl1.trans hl2).trans hl5)) hC5.old d1 hx1) fun v6 w6 hv6 => ?_)
  obtain ⟨hv6, hb4⟩ := hv6
  have hl6 := Le.no M hb4
  have hC6 := hC5.no hb4
  exact ⟨hb4, hv6⟩
 ·
  intro w7 D hS3 hd3
  have hl7 := Le.no M hS3
  have hC7 := hC2.no hS3
  refine dg_sub (E' := [(2, (.pointer (some p1)))]) ⟨rfl, trivial⟩ ?_
  refine dg_plain rfl (ow_fieldAddr rfl rfl Tryd.underlying31 rfl (Tryd.sizeOf3 _) ?_)
  exact ⟨BX.refl _ _, ⟨_, rfl, (ARep.mono (hl2.trans hl7) (hp1.fld fld_Test_Field))⟩⟩
 ·
  intro w8 D hS4 hd4
  have hl8 := Le.no M hS4
  have hC8 := hC2.no hS4
  have hd4 : PA RInt M a_t.Field (D 2) w8 ∧ True := hd4
  obtain ⟨d2, -⟩ := hd4
  obtain ⟨p3, e1, ha1⟩ := d2
  refine dg_sub (E' := [(9, (.pointer (some p3)))]) ⟨(congrArg some e1), trivial⟩ ?_
  refine dg_plain rfl (ow_load (R := RInt) rfl rfl ha1 (Tryd.sizeOf3 _) (Tryd.isAgg3 _) fun v7 hv7 => ?_)
  obtain rfl := vint_eq hv7
  exact ⟨BX.refl _ _, rfl⟩
 ·
  intro w9 D hS5 hd5
  have hd5 : PV RPacket M a_p (D 0) w9 ∧ PV (RArr 4 RInt) M x1 (D 1) w9 ∧ PA RInt M a_t.Field (D 2) w9 ∧ PEq (.int .i64 a_t.Field) (D 3) w9 ∧ True := hd5
  obtain ⟨-, d4, -, d6, -⟩ := hd5
  have hl9 := Le.no M hS5
  have hC9 := hC2.no hS5
  obtain ⟨v8, hq2⟩ : ∃ v, (D 1) = v := ⟨_, rfl⟩
  rw [hq2] at d4
  refine lw_sub (E' := [(8, v8), (10, (.int .i64 a_t.Field)), (2, (.pointer (some p1))), (3, (.pointer (some p2))), (4, (.bool false))]) ⟨(congrArg some hq2), (congrArg some d6), rfl, rfl, rfl, trivial⟩ ?_
  replace h := bind_some h
  obtain ⟨x2, hx2, h⟩ := h
  refine lw_op rfl rfl rfl (ow_index (R := RInt) rfl rfl rfl d4 Tryd.underlying91 (Tryd.sizeOf3 _) (Tryd.isAgg3 _) hx2 fun v9 hv9 => ?_)
  obtain rfl := vint_eq hv9
  refine lw_op rfl rfl rfl (ow_assign rfl rfl ?_)
  refine lw_nil (ew_then (cw_seq (cw_region (lw_op rfl rfl rfl (ow_fieldAddr rfl rfl Tryd.underlying31 rfl (Tryd.sizeOf3 _) ?_)))))
  refine lw_op rfl rfl rfl (ow_load (R := RInt) rfl rfl (ARep.mono (hl2.trans hl9) (hp1.fld fld_Test_Lo)) (Tryd.sizeOf3 _) (Tryd.isAgg3 _) fun v10 hv10 => ?_)
  obtain rfl := vint_eq hv10
  refine lw_op rfl rfl rfl (ow_move rfl rfl ?_)
  refine lw_op rfl rfl rfl (ow_leq rfl rfl rfl fun bb1 hbb1 => ?_)
  refine lw_op rfl rfl rfl (ow_move rfl rfl ?_)
  replace h := cond_some h
  rcases h with ⟨hc1, h⟩ | ⟨hc1, h⟩
  ·
   obtain rfl := hbb1.trans hc1
   refine lw_on rfl rfl rfl rfl rfl rfl (ow_move rfl rfl ?_)
   refine lw_on rfl rfl rfl rfl rfl rfl (ow_fieldAddr rfl rfl Tryd.underlying31 rfl (Tryd.sizeOf3 _) ?_)
   refine lw_on rfl rfl rfl rfl rfl rfl (ow_load (R := RInt) rfl rfl (ARep.mono (hl2.trans hl9) (hp1.fld fld_Test_Hi)) (Tryd.sizeOf3 _) (Tryd.isAgg3 _) fun v11 hv11 => ?_)
   obtain rfl := vint_eq hv11
   refine lw_on rfl rfl rfl rfl rfl rfl (ow_leq rfl rfl rfl fun bb2 hbb2 => ?_)
   refine lw_op rfl rfl rfl (ow_pickT rfl rfl rfl ?_)
   refine lw_op rfl rfl rfl (ow_assign rfl rfl ?_)
   refine lw_nil (ew_then (cw_seq (cw_region (lw_op rfl rfl rfl (ow_move rfl rfl ?_)))))
   refine lw_op rfl rfl rfl (ow_fieldAddr rfl rfl Tryd.underlying31 rfl (Tryd.sizeOf4 _) ?_)
   refine lw_op rfl rfl rfl (ow_load (R := RBool) rfl rfl (ARep.mono (hl2.trans hl9) (hp1.fld fld_Test_Not)) (Tryd.sizeOf4 _) (Tryd.isAgg4 _) fun v12 hv12 => ?_)
   obtain ⟨bb3, hbb3, rfl⟩ := vbool_ex hv12
   refine lw_op rfl rfl rfl (ow_neqB rfl rfl rfl Tryd.underlying4 fun bb4 hbb4 => ?_)
   have hbb4' : bb4 = ((decide (x2 ≤ a_t.Hi)) != a_t.Not) := hbb4.trans (by rw [hbb2, hbb3])
   refine lw_op rfl rfl rfl (ow_assign rfl rfl ?_)
   refine lw_nil (ew_then (cw_ret ?_))
   obtain rfl := Option.some.inj h
   exact ew_ret (res1 rfl (.tmp rfl)) ⟨_, rfl, ((vbool_of hbb4')), hC9.bx⟩
  ·
   obtain rfl := hbb1.trans hc1
   refine lw_off rfl rfl rfl rfl rfl rfl ?_
   refine lw_off rfl rfl rfl rfl rfl rfl ?_
   refine lw_off rfl rfl rfl rfl rfl rfl ?_
   refine lw_off rfl rfl rfl rfl rfl rfl ?_
   refine lw_op rfl rfl rfl (ow_pickF rfl rfl rfl ?_)
   refine lw_op rfl rfl rfl (ow_assign rfl rfl ?_)
   refine lw_nil (ew_then (cw_seq (cw_region (lw_op rfl rfl rfl (ow_move rfl rfl ?_)))))
   refine lw_op rfl rfl rfl (ow_fieldAddr rfl rfl Tryd.underlying31 rfl (Tryd.sizeOf4 _) ?_)
   refine lw_op rfl rfl rfl (ow_load (R := RBool) rfl rfl (ARep.mono (hl2.trans hl9) (hp1.fld fld_Test_Not)) (Tryd.sizeOf4 _) (Tryd.isAgg4 _) fun v13 hv13 => ?_)
   obtain ⟨bb5, hbb5, rfl⟩ := vbool_ex hv13
   refine lw_op rfl rfl rfl (ow_neqB rfl rfl rfl Tryd.underlying4 fun bb6 hbb6 => ?_)
   have hbb6' : bb6 = (false != a_t.Not) := hbb6.trans (by rw [hbb5])
   refine lw_op rfl rfl rfl (ow_assign rfl rfl ?_)
   refine lw_nil (ew_then (cw_ret ?_))
   obtain rfl := Option.some.inj h
   exact ew_ret (res1 rfl (.tmp rfl)) ⟨_, rfl, ((vbool_of hbb6')), hC9.bx⟩

theorem w_impl_allHold {w : World} {M : Nat → Prop} (hG : ARep (RArr 4 RShape) w M shapes ⟨0, 0, none⟩) (hO : ∀ b, M b → b < w.heap.size) {v0p : Value} {a_list : List Test} (h0 : VRep (RSlice RTest) w M a_list v0p) {v1p : Value} {a_p : Packet} (h1 : VRep RPacket w M a_p v1p) {r : Bool} (h : F.impl_allHold a_list a_p = some r) :
  Calls Tryd.prog 72 [v0p, v1p].toArray w fun e w' => ∃ v, e = .returned v ∧ VRep RBool w' M r v ∧ BX No w w' := by
 have hC : Cx No w M w M := Cx.start hO (fun _ e => e.elim)
 refine walk (N := 18) Tryd.func72 rfl Tryd.ntmps72 rfl ?_
 refine cw_seq (cw_region (lw_op rfl rfl rfl (ow_box (R := RPacket) rfl rfl h1 hC fun p1 w1 hp1 hb1 hl1 hC1 => ?_)))
 refine lw_op rfl rfl rfl (ow_assign rfl rfl ?_)
 refine lw_nil (ew_then (cw_seq (cw_seq (cw_region (lw_op rfl rfl rfl (ow_move rfl rfl ?_))))))
 refine lw_op rfl rfl rfl (ow_len rfl rfl (VRep.mono hl1 h0) Tryd.underlying23 rfl ?_)
 refine lw_op rfl rfl rfl (ow_move rfl rfl ?_)
 refine lw_nil (ew_then ?_)
 replace h := bind_some h
 obtain ⟨lr1, hlr1, h⟩ := h
 refine cw_for hlr1 (fun s a w' => ∃ (M' : Nat → Prop), Fits 18 [(3, (.pointer (some p1))), (7, v0p), (8, (.int .i64 (a_list.length : Int))), (9, (.int .i64 s))] a ∧ Le w1 M w' M' ∧ Cx No w M w' M') ?_ ?_ ?_
 ·
  intro a ha
  exact ⟨M, ha.sub ⟨rfl, rfl, rfl, rfl, trivial⟩, Le.refl _ _, hC1⟩
 ·
  rintro k1 a w2 sr1 ⟨M1, hF1, hl2, hC2⟩ hb2 hR1
  refine cw_at (E := [(3, (.pointer (some p1))), (7, v0p), (8, (.int .i64 (a_list.length : Int))), (9, (.int .i64 k1))]) hF1 ?_
  refine cw_seq (cw_region (lw_op rfl rfl rfl (ow_lss rfl rfl rfl fun bb1 hbb1 => ?_)))
  refine lw_nil (ew_then (cw_seq ?_))
  replace hb2 := cond_some hb2
  rcases hb2 with ⟨hc1, hb2⟩ | ⟨hc1, hb2⟩
  ·
   obtain rfl := hbb1.trans hc1
   refine cw_true rfl ?_
   refine cw_skip (ew_then (cw_seq (cw_block ?_)))
   refine cw_seq (cw_region ?_)
   replace hb2 := bind_some hb2
   obtain ⟨x1, hx1, hb2⟩ := hb2
   refine lw_op rfl rfl rfl (ow_indexSlice (R := RTest) rfl rfl rfl (VRep.mono (hl1.trans hl2) h0) Tryd.underlying23 (Tryd.sizeOf31 _) hx1 fun p2 hp2 => ?_)
   refine lw_op rfl rfl rfl (ow_load (R := RTest) rfl rfl hp2 (Tryd.sizeOf31 _) (Tryd.isAgg31 _) fun v2 hv2 => ?_)
   refine lw_allocStore (R := RTest) rfl rfl rfl rfl rfl rfl rfl Tryd.zeroValue31 Tryd.sizeOf31 rfl rfl rfl (by simp) hv2 hC2 fun p3 w3 hp3 hb3 hl3 hC3 => ?_
   refine lw_nil (ew_then (cw_seq (cw_region (lw_op rfl rfl rfl (ow_load (R := RTest) rfl rfl hp3 (Tryd.sizeOf31 _) (Tryd.isAgg31 _) fun v3 hv3 => ?_)))))
   refine lw_op rfl rfl rfl (ow_load (R := RPacket) rfl rfl (ARep.mono (hl2.trans hl3) hp1) (Tryd.sizeOf45 _) (Tryd.isAgg45 _) fun v4 hv4 => ?_)
   replace hb2 := bind_some hb2
   obtain ⟨x2, hx2, hb2⟩ := hb2
   refine lw_op rfl rfl rfl (ow_call rfl rfl Tryd.call102 (w_impl_Test_holds (hG.mono ((hl1.trans hl2).trans hl3)) hC3.old hv3 hv4 hx2) fun v5 w4 hv5 => ?_)
   obtain ⟨hv5, hb4⟩ := hv5
   have hl4 := Le.no M1 hb4
   have hC4 := hC3.no hb4
   obtain rfl := vbool_eq hv5
   refine lw_op rfl rfl rfl (ow_not rfl rfl ?_)
   refine lw_nil (ew_then ?_)
   replace hb2 := cond_some hb2
   rcases hb2 with ⟨hc2, hb2⟩ | ⟨hc2, hb2⟩
   ·
    subst hc2
    refine cw_false rfl ?_
    refine cw_skip (ew_blockN ?_)
    refine ew_then (cw_region (lw_op rfl rfl rfl (ow_add rfl rfl rfl ?_)))
    refine lw_op rfl rfl rfl (ow_move rfl rfl ?_)
    refine lw_nil (ew_nxt (W (k1 + 1)) hb2 fun a ha => ⟨M1, ?_, ((hl2.trans hl3).trans hl4), hC4⟩)
    exact ha.sub ⟨rfl, rfl, rfl, rfl, trivial⟩
   ·
    subst hc2
    refine cw_true rfl ?_
    refine cw_seq (cw_region (lw_op rfl rfl rfl (ow_assign rfl rfl ?_)))
    refine lw_nil (ew_then (cw_ret (ew_blockR ?_)))
    refine ew_thenR (ew_thenR (ew_blockR ?_))
    refine ew_brkR ?_
    refine ew_thenR ?_
    have e1 := hR1 _ (Option.some.inj hb2).symm
    subst e1
    obtain rfl := Option.some.inj h
    exact ew_ret (res1 rfl (.tmp rfl)) ⟨_, rfl, ((vbool _)), hC4.bx⟩
  ·
   obtain rfl := hbb1.trans hc1
   refine cw_false rfl ?_
   refine cw_exit ?_
   refine ew_thenX ?_
   refine ew_thenX ?_
   refine ew_blockX ?_
   refine ew_brk k1 hb2 fun a ha => ⟨M1, ?_, hl2, hC2⟩
   exact ha.sub ⟨rfl, rfl, rfl, rfl, trivial⟩
 ·
  rintro k2 a w5 hlr2 ⟨M2, hF2, hl5, hC5⟩
  subst hlr2
  refine ew_at (E := [(3, (.pointer (some p1))), (7, v0p), (8, (.int .i64 (a_list.length : Int))), (9, (.int .i64 k2))]) hF2 ?_
  refine ew_then (cw_seq (cw_region (lw_op rfl rfl rfl (ow_assign rfl rfl ?_))))
  refine lw_nil (ew_then (cw_ret ?_))
  obtain rfl := Option.some.inj h
  exact ew_ret (res1 rfl (.tmp rfl)) ⟨_, rfl, ((vbool _)), hC5.bx⟩

theorem w_impl_TestsHold {w : World} {M : Nat → Prop} (hG : ARep (RArr 4 RShape) w M shapes ⟨0, 0, none⟩) (hO : ∀ b, M b → b < w.heap.size) {v0p : Value} {a_list : List Test} (h0 : VRep (RSlice RTest) w M a_list v0p) {v1p : Value} {a_p : Packet} (h1 : VRep RPacket w M a_p v1p) {r : Bool} (h : F.impl_TestsHold a_list a_p = some r) :
  Calls Tryd.prog 32 [v0p, v1p].toArray w fun e w' => ∃ v, e = .returned v ∧ VRep RBool w' M r v ∧ BX No w w' := by
 have hC : Cx No w M w M := Cx.start hO (fun _ e => e.elim)
 refine walk (N := 16) Tryd.func32 rfl Tryd.ntmps32 rfl ?_
 refine cw_seq (cw_region (lw_op rfl rfl rfl (ow_box (R := RPacket) rfl rfl h1 hC fun p1 w1 hp1 hb1 hl1 hC1 => ?_)))
 refine lw_op rfl rfl rfl (ow_assign rfl rfl ?_)
 refine lw_nil (ew_then (cw_seq (cw_region (lw_op rfl rfl rfl (ow_move rfl rfl ?_)))))
 replace h := bind_some h
 obtain ⟨x1, hx1, h⟩ := h
 refine lw_op rfl rfl rfl (ow_call rfl rfl Tryd.call55 (w_impl_TestsValid (hG.mono hl1) hC1.old (VRep.mono hl1 h0) hx1) fun v1 w2 hv1 => ?_)
 obtain ⟨hv1, hb2⟩ := hv1
 have hl2 := Le.no M hb2
 have hC2 := hC1.no hb2
 obtain rfl := vbool_eq hv1
 refine lw_op rfl rfl rfl (ow_move rfl rfl ?_)
 replace h := cond_some h
 rcases h with ⟨hc1, h⟩ | ⟨hc1, h⟩
 ·
  subst hc1
  refine lw_on rfl rfl rfl rfl rfl rfl (ow_load (R := RPacket) rfl rfl (ARep.mono hl2 hp1) (Tryd.sizeOf45 _) (Tryd.isAgg45 _) fun v2 hv2 => ?_)
  replace h := bind_some h
  obtain ⟨x2, hx2, h⟩ := h
  refine lw_on rfl rfl rfl rfl rfl rfl (ow_call rfl rfl Tryd.call70 (w_impl_PacketValid (hG.mono (hl1.trans hl2)) hC2.old hv2 hx2) fun v3 w3 hv3 => ?_)
  obtain ⟨hv3, hb3⟩ := hv3
  have hl3 := Le.no M hb3
  have hC3 := hC2.no hb3
  obtain rfl := vbool_eq hv3
  refine lw_op rfl rfl rfl (ow_pickT rfl rfl rfl ?_)
  refine lw_op rfl rfl rfl (ow_move rfl rfl ?_)
  replace h := cond_some h
  rcases h with ⟨hc2, h⟩ | ⟨hc2, h⟩
  ·
   subst hc2
   refine lw_on rfl rfl rfl rfl rfl rfl (ow_move rfl rfl ?_)
   refine lw_on rfl rfl rfl rfl rfl rfl (ow_load (R := RPacket) rfl rfl (ARep.mono (hl2.trans hl3) hp1) (Tryd.sizeOf45 _) (Tryd.isAgg45 _) fun v4 hv4 => ?_)
   replace h := bind_some h
   obtain ⟨x3, hx3, h⟩ := h
   refine lw_on rfl rfl rfl rfl rfl rfl (ow_call rfl rfl Tryd.call72 (w_impl_allHold (hG.mono ((hl1.trans hl2).trans hl3)) hC3.old (VRep.mono ((hl1.trans hl2).trans hl3) h0) hv4 hx3) fun v5 w4 hv5 => ?_)
   obtain ⟨hv5, hb4⟩ := hv5
   have hl4 := Le.no M hb4
   have hC4 := hC3.no hb4
   obtain rfl := vbool_eq hv5
   refine lw_op rfl rfl rfl (ow_pickT rfl rfl rfl ?_)
   refine lw_op rfl rfl rfl (ow_assign rfl rfl ?_)
   refine lw_nil (ew_then (cw_ret ?_))
   obtain rfl := Option.some.inj h
   exact ew_ret (res1 rfl (.tmp rfl)) ⟨_, rfl, ((vbool _)), hC4.bx⟩
  ·
   subst hc2
   refine lw_off rfl rfl rfl rfl rfl rfl ?_
   refine lw_off rfl rfl rfl rfl rfl rfl ?_
   refine lw_off rfl rfl rfl rfl rfl rfl ?_
   refine lw_op rfl rfl rfl (ow_pickF rfl rfl rfl ?_)
   refine lw_op rfl rfl rfl (ow_assign rfl rfl ?_)
   refine lw_nil (ew_then (cw_ret ?_))
   obtain rfl := Option.some.inj h
   exact ew_ret (res1 rfl (.tmp rfl)) ⟨_, rfl, ((vbool _)), hC3.bx⟩
 ·
  subst hc1
  refine lw_off rfl rfl rfl rfl rfl rfl ?_
  refine lw_off rfl rfl rfl rfl rfl rfl ?_
  refine lw_op rfl rfl rfl (ow_pickF rfl rfl rfl ?_)
  refine lw_op rfl rfl rfl (ow_move rfl rfl ?_)
  refine lw_off rfl rfl rfl rfl rfl rfl ?_
  refine lw_off rfl rfl rfl rfl rfl rfl ?_
  refine lw_off rfl rfl rfl rfl rfl rfl ?_
  refine lw_op rfl rfl rfl (ow_pickF rfl rfl rfl ?_)
  refine lw_op rfl rfl rfl (ow_assign rfl rfl ?_)
  refine lw_nil (ew_then (cw_ret ?_))
  obtain rfl := Option.some.inj h
  exact ew_ret (res1 rfl (.tmp rfl)) ⟨_, rfl, ((vbool _)), hC2.bx⟩


end Go.PF
