/- The walks; no condition. -/
import Derived.Test.YtggckckjmhhdhaaDoorProg
import Derived.Test.YtggckckjmhhdhaaDoorFun
import Derived.Test.YtggckckjmhhdhaaDoorPFChain
set_option maxRecDepth 100000
set_option maxHeartbeats 4000000
namespace Go.PF
open Go Go.RowKit Go.Proofs

theorem info92 : ∃ i, Tryd.prog.info? 92 = some i ∧ i.zero = some (.agg #[.int .i64 0, .int .i64 0]) ∧ i.size = 2 ∧ i.bytes = 16 := info_parts (by kernel_rfl)
theorem info93 : ∃ i, Tryd.prog.info? 93 = some i ∧ i.zero = some (.slice none 0 0) ∧ i.size = 1 ∧ i.bytes = 24 := info_parts (by kernel_rfl)
theorem eqS92 {x y : Span} (w : World) : (Op.equalIn 10000 92 (.agg #[.int .i64 x.Lo, .int .i64 x.Hi]) (.agg #[.int .i64 y.Lo, .int .i64 y.Hi])).run Tryd.prog w = .ok (decide (x = y)) w := by
  obtain ⟨a0, a1⟩ := x
  obtain ⟨b0, b1⟩ := y
  rw [run_equalIn_struct w 9999 92 _ _ rfl Tryd.stoodInHeld92]
  simp only [Program.fieldsOf, Tryd.underlying92]
  by_cases h0 : a0 = b0 <;> by_cases h1 : a1 = b1 <;> simp [Op.eqFields, part, Tryd.isAgg3, run_equalIn_int, Tryd.underlying3, h0, h1]
theorem w_spec_FieldTop {w : World} {M : Nat → Prop} (_hG : ARep (RArr 4 RShape) w M shapes ⟨0, 0, none⟩) (hO : ∀ b, M b → b < w.heap.size) {a_n : Int} {r : Int} (h : F.spec_FieldTop a_n = some r) :
    Calls Tryd.prog 65 [(.int .i64 a_n)].toArray w fun e w' => ∃ v, e = .returned v ∧ VRep RInt w' M r v ∧ BX No w w' := by
  have hC : Cx No w M w M := Cx.start hO (fun _ e => e.elim)
  clear _hG
  refine walk (N := 11) Tryd.func65 rfl Tryd.ntmps65 rfl ?_
  refine cw_seq ?_
  refine cw_region ?_
  refine lw_op rfl rfl rfl (ow_assign rfl rfl ?_)
  refine lw_nil ?_
  refine ew_then ?_
  refine cw_seq ?_
  refine cw_seq ?_
  refine cw_region ?_
  refine lw_op rfl rfl rfl (ow_move rfl rfl ?_)
  refine lw_nil ?_
  refine ew_then ?_
  refine cw_block ?_
  refine cw_seq ?_
  refine cw_seq ?_
  refine cw_region ?_
  refine lw_op rfl rfl rfl (ow_eqlI rfl rfl rfl fun bb1 hbb1 => ?_)
  refine lw_op rfl rfl rfl (ow_assign rfl rfl ?_)
  refine lw_nil ?_
  refine ew_then ?_
  replace h := cond_some h
  rcases h with ⟨hc1, h⟩ | ⟨hc1, h⟩
  · obtain rfl := hbb1.trans hc1
    refine cw_true rfl ?_
    refine cw_skip ?_
    refine ew_then ?_
    refine cw_true rfl ?_
    refine cw_seq ?_
    refine cw_region ?_
    refine lw_op rfl rfl rfl (ow_assign rfl rfl ?_)
    refine lw_nil ?_
    refine ew_then ?_
    refine cw_ret ?_
    refine ew_blockR ?_
    refine ew_thenR ?_
    obtain rfl := Option.some.inj h
    exact ew_ret (res1 rfl (.tmp rfl)) ⟨_, rfl, ((vint _)), hC.bx⟩
  · obtain rfl := hbb1.trans hc1
    refine cw_false rfl ?_
    refine cw_region ?_
    refine lw_op rfl rfl rfl (ow_eqlI rfl rfl rfl fun bb2 hbb2 => ?_)
    refine lw_op rfl rfl rfl (ow_assign rfl rfl ?_)
    refine lw_nil ?_
    refine ew_then ?_
    replace h := cond_some h
    rcases h with ⟨hc2, h⟩ | ⟨hc2, h⟩
    · obtain rfl := hbb2.trans hc2
      refine cw_true rfl ?_
      refine cw_seq ?_
      refine cw_region ?_
      refine lw_op rfl rfl rfl (ow_assign rfl rfl ?_)
      refine lw_nil ?_
      refine ew_then ?_
      refine cw_ret ?_
      refine ew_blockR ?_
      refine ew_thenR ?_
      obtain rfl := Option.some.inj h
      exact ew_ret (res1 rfl (.tmp rfl)) ⟨_, rfl, ((vint _)), hC.bx⟩
    · obtain rfl := hbb2.trans hc2
      refine cw_false rfl ?_
      refine cw_seq ?_
      refine cw_region ?_
      refine lw_op rfl rfl rfl (ow_eqlI rfl rfl rfl fun bb3 hbb3 => ?_)
      refine lw_op rfl rfl rfl (ow_assign rfl rfl ?_)
      refine lw_nil ?_
      refine ew_then ?_
      replace h := cond_some h
      rcases h with ⟨hc3, h⟩ | ⟨hc3, h⟩
      · obtain rfl := hbb3.trans hc3
        refine cw_true rfl ?_
        refine cw_seq ?_
        refine cw_region ?_
        refine lw_op rfl rfl rfl (ow_assign rfl rfl ?_)
        refine lw_nil ?_
        refine ew_then ?_
        refine cw_ret ?_
        refine ew_blockR ?_
        refine ew_thenR ?_
        obtain rfl := Option.some.inj h
        exact ew_ret (res1 rfl (.tmp rfl)) ⟨_, rfl, ((vint _)), hC.bx⟩
      · obtain rfl := hbb3.trans hc3
        refine cw_false rfl ?_
        refine cw_seq ?_
        refine cw_region ?_
        refine lw_op rfl rfl rfl (ow_eqlI rfl rfl rfl fun bb4 hbb4 => ?_)
        refine lw_op rfl rfl rfl (ow_assign rfl rfl ?_)
        refine lw_nil ?_
        refine ew_then ?_
        replace h := cond_some h
        rcases h with ⟨hc4, h⟩ | ⟨hc4, h⟩
        · obtain rfl := hbb4.trans hc4
          refine cw_true rfl ?_
          refine cw_seq ?_
          refine cw_region ?_
          refine lw_op rfl rfl rfl (ow_assign rfl rfl ?_)
          refine lw_nil ?_
          refine ew_then ?_
          refine cw_ret ?_
          refine ew_blockR ?_
          refine ew_thenR ?_
          obtain rfl := Option.some.inj h
          exact ew_ret (res1 rfl (.tmp rfl)) ⟨_, rfl, ((vint _)), hC.bx⟩
        · obtain rfl := hbb4.trans hc4
          refine cw_false rfl ?_
          refine cw_skip ?_
          refine ew_blockN ?_
          refine ew_then ?_
          refine cw_seq ?_
          refine cw_region ?_
          refine lw_op rfl rfl rfl (ow_assign rfl rfl ?_)
          refine lw_nil ?_
          refine ew_then ?_
          refine cw_ret ?_
          obtain rfl := Option.some.inj h
          exact ew_ret (res1 rfl (.tmp rfl)) ⟨_, rfl, ((vint _)), hC.bx⟩

theorem w_spec_BoxAll {w : World} {M : Nat → Prop} (hG : ARep (RArr 4 RShape) w M shapes ⟨0, 0, none⟩) (hO : ∀ b, M b → b < w.heap.size)  {r : Box} (h : F.spec_BoxAll = some r) :
    Calls Tryd.prog 15 [].toArray w fun e w' => ∃ v, e = .returned v ∧ VRep RBox w' M r v ∧ BX No w w' := by
  obtain ⟨i93, hi93, hz93, hs93, hy93⟩ := info93
  have hC : Cx No w M w M := Cx.start hO (fun _ e => e.elim)
  refine walk (N := 18) Tryd.func15 rfl Tryd.ntmps15 rfl ?_
  refine cw_seq ?_
  refine cw_region ?_
  refine lw_op rfl rfl rfl (ow_alloc rfl (Tryd.zeroValue24 _) hC fun g1 w1 hg1 hg2 ho1 hb1 hl1 hC1 => ?_)
  have hm1 : (Add g1 M) g1 := .inl rfl
  refine lw_nil ?_
  refine ew_then ?_
  refine cw_seq ?_
  refine cw_region ?_
  refine lw_op rfl rfl rfl (ow_build (v := .agg #[(.slice none 0 0)]) rfl rfl (by kernel_rfl) ?_)
  have hw1 : VRep RBox w1 (Add g1 M) ({ Sides := ([] : List (List Span)) } : Box) (.agg #[(.slice none 0 0)]) := shut_Box (vslice_nil (R := (RSlice RSpan)) (w := w1) (M := (Add g1 M)))
  refine lw_op rfl rfl rfl (ow_alloc rfl (Tryd.zeroValue24 _) hC1 fun g2 w2 hg3 hg4 ho2 hb2 hl2 hC2 => ?_)
  have hn1 := Nat.ne_of_lt (Nat.lt_of_lt_of_le ho1.lt hg3)
  have ho3 := ho1.no hb2
  have hm2 : (Add g2 (Add g1 M)) g1 := .inr hm1
  have hm3 : (Add g2 (Add g1 M)) g2 := .inl rfl
  refine lw_op0 rfl rfl (ow_store (X := No) (us := [(.slice none 0 0)]) (cs' := #[(.slice none 0 0)]) rfl rfl rfl rfl ho2 (Tryd.sizeOf24 _) rfl rfl rfl rfl hm3 (.inl hg4) rfl hC2 fun w3 ho4 hb3 hl3 hC3 => ?_)
  have ho5 := ho3.go hb3 (fun e => hn1 e)
  refine lw_nil ?_
  refine ew_then ?_
  refine cw_seq ?_
  refine cw_seq ?_
  refine cw_region ?_
  refine lw_op rfl rfl rfl (ow_assign rfl rfl ?_)
  refine lw_nil ?_
  refine ew_then ?_
  have hr1 : OwnRow (RSlice RSpan) w.heap.size 93 w3 (Add g2 (Add g1 M)) ([] : List (List Span)) (.slice none 0 0) := ownrow_nil
  replace h := bind_some h
  obtain ⟨lr1, hlr1, h⟩ := h
  refine cw_for hlr1 (fun s a w' => ∃ (M' : Nat → Prop) (v1c : Value), Fits 18 [(0, (.pointer (some ⟨g1, 0, none⟩))), (1, (.pointer (some ⟨g2, 0, none⟩))), (2, (.int .i64 s.1))] a ∧ Le w3 (Add g2 (Add g1 M)) w' M' ∧ Cx No w M w' M' ∧ OwnRow (RSlice RSpan) w.heap.size 93 w' M' s.2 v1c ∧ Own w' g1 24 #[(.slice none 0 0)] ∧ M' g1 ∧ Own w' g2 24 #[v1c] ∧ M' g2) ?_ ?_ ?_
  · intro a ha
    exact ⟨(Add g2 (Add g1 M)), (.slice none 0 0), ha.sub ⟨rfl, rfl, rfl, trivial⟩, Le.refl _ _, hC3, hr1, ho5, hm2, ho4, hm3⟩
  · rintro ⟨k1, y1⟩ a w4 sr1 ⟨M1, v2, hF1, hl4, hC4, hw2, ho6, hm4, ho7, hm5⟩ hb4 hR1
    refine cw_at (E := [(0, (.pointer (some ⟨g1, 0, none⟩))), (1, (.pointer (some ⟨g2, 0, none⟩))), (2, (.int .i64 k1))]) hF1 ?_
    refine cw_seq ?_
    refine cw_seq ?_
    refine cw_region ?_
    refine lw_op rfl rfl rfl (ow_move rfl rfl ?_)
    refine lw_op rfl rfl rfl (ow_lss rfl rfl rfl fun bb1 hbb1 => ?_)
    refine lw_nil ?_
    refine ew_then ?_
    replace hb4 := cond_some hb4
    rcases hb4 with ⟨hc1, hb4⟩ | ⟨hc1, hb4⟩
    · obtain rfl := hbb1.trans hc1
      refine cw_true rfl ?_
      refine cw_skip ?_
      refine ew_then ?_
      refine cw_seq ?_
      refine cw_block ?_
      replace hb4 := bind_some hb4
      obtain ⟨x1, hx1, hb4⟩ := hb4
      refine cw_sub (E' := [(0, (.pointer (some ⟨g1, 0, none⟩))), (1, (.pointer (some ⟨g2, 0, none⟩))), (2, (.int .i64 k1))]) ⟨rfl, rfl, rfl, trivial⟩ ?_
      refine cw_drawQ 7 [PEq (.pointer (some ⟨g2, 0, none⟩)), PEq v2, PEq (.int .i64 k1), PEq (.int .i64 x1), PV RSpan M1 ({ Lo := 0, Hi := x1 } : Span), PV (RSlice RSpan) M1 [({ Lo := 0, Hi := x1 } : Span)], PV (RSlice (RSlice RSpan)) M1 [[({ Lo := 0, Hi := x1 } : Span)]]] (by kernel_rfl) rfl (by kernel_rfl) ⟨PEq.mono _, PEq.mono _, PEq.mono _, PEq.mono _, PV.mono _ _ _, PV.mono _ _ _, PV.mono _ _ _, trivial⟩ ⟨?_, ?_, ?_, ?_, ?_, ?_, ?_, trivial⟩ ?_
      · intro w8 D hS1 hd1
        have hl8 := Le.no M1 hS1
        have hC8 := hC4.no hS1
        have ho14 := ho6.no hS1
        have ho15 := ho7.no hS1
        have hr5 := hw2.no hS1
        refine dg_sub (E' := [(1, (.pointer (some ⟨g2, 0, none⟩)))]) ⟨rfl, trivial⟩ ?_
        refine dg_plain rfl (ow_fieldAddr rfl rfl Tryd.underlying24 rfl (Tryd.sizeOf22 _) ?_)
        exact ⟨BX.refl _ _, rfl⟩
      · intro w9 D hS2 hd2
        have hl9 := Le.no M1 hS2
        have hC9 := hC4.no hS2
        have ho16 := ho6.no hS2
        have ho17 := ho7.no hS2
        have hr6 := hw2.no hS2
        have hd2 : PEq (.pointer (some ⟨g2, 0, none⟩)) (D 0) w9 ∧ True := hd2
        obtain ⟨d1, -⟩ := hd2
        refine dg_sub (E' := [(8, (.pointer (some ⟨g2, 0, none⟩)))]) ⟨(congrArg some d1), trivial⟩ ?_
        refine dg_plain rfl (ow_loadOwn1 rfl rfl rfl ho17 (Tryd.isAgg22 _) rfl ?_)
        exact ⟨BX.refl _ _, rfl⟩
      · intro w10 D hS3 hd3
        have hl10 := Le.no M1 hS3
        have hC10 := hC4.no hS3
        have ho18 := ho6.no hS3
        have ho19 := ho7.no hS3
        have hr7 := hw2.no hS3
        refine dg_sub (E' := [(2, (.int .i64 k1))]) ⟨rfl, trivial⟩ ?_
        refine dg_plain rfl (ow_move rfl rfl ?_)
        exact ⟨BX.refl _ _, rfl⟩
      · intro w11 D hS4 hd4
        have hl11 := Le.no M1 hS4
        have hC11 := hC4.no hS4
        have ho20 := ho6.no hS4
        have ho21 := ho7.no hS4
        have hr8 := hw2.no hS4
        have hd4 : PEq (.int .i64 k1) (D 2) w11 ∧ True := hd4
        obtain ⟨d2, -⟩ := hd4
        refine dg_sub (E' := [(10, (.int .i64 k1))]) ⟨(congrArg some d2), trivial⟩ ?_
        refine dg_plain rfl (ow_call rfl rfl Tryd.call65 (w_spec_FieldTop (hG.mono ((((hl1.trans hl2).trans hl3).trans hl4).trans hl11)) hC11.old hx1) fun v4 w12 hv4 => ?_)
        obtain ⟨hv4, hb8⟩ := hv4
        have hl12 := Le.no M1 hb8
        have hC12 := hC11.no hb8
        have ho22 := ho20.no hb8
        have ho23 := ho21.no hb8
        have hr9 := hr8.no hb8
        obtain rfl := vint_eq hv4
        exact ⟨hb8, rfl⟩
      · intro w13 D hS5 hd5
        have hl13 := Le.no M1 hS5
        have hC13 := hC4.no hS5
        have ho24 := ho6.no hS5
        have ho25 := ho7.no hS5
        have hr10 := hw2.no hS5
        have hd5 : PEq (.int .i64 x1) (D 3) w13 ∧ True := hd5
        obtain ⟨d3, -⟩ := hd5
        refine dg_sub (E' := [(11, (.int .i64 x1))]) ⟨(congrArg some d3), trivial⟩ ?_
        refine dg_plain rfl (ow_build (v := .agg #[(.int .i64 0), (.int .i64 x1)]) rfl rfl (by kernel_rfl) ?_)
        have hw6 : VRep RSpan w13 M1 ({ Lo := 0, Hi := x1 } : Span) (.agg #[(.int .i64 0), (.int .i64 x1)]) := shut_Span
        exact ⟨BX.refl _ _, hw6⟩
      · intro w14 D hS6 hd6
        have hl14 := Le.no M1 hS6
        have hC14 := hC4.no hS6
        have ho26 := ho6.no hS6
        have ho27 := ho7.no hS6
        have hr11 := hw2.no hS6
        have hd6 : PV RSpan M1 ({ Lo := 0, Hi := x1 } : Span) (D 4) w14 ∧ True := hd6
        obtain ⟨d4, -⟩ := hd6
        obtain ⟨v5, hq1⟩ : ∃ v, (D 4) = v := ⟨_, rfl⟩
        rw [hq1] at d4
        refine dg_sub (E' := [(12, v5)]) ⟨(congrArg some hq1), trivial⟩ ?_
        obtain rfl := open_Span d4
        refine dg_plain rfl (ow_buildSlice (R := RSpan) (xs := [({ Lo := 0, Hi := x1 } : Span)]) (cs := #[(.int .i64 ({ Lo := 0, Hi := x1 } : Span).Lo), (.int .i64 ({ Lo := 0, Hi := x1 } : Span).Hi)]) (e := 92) rfl rfl (by kernel_rfl) rfl rfl ⟨_, _, rfl, d4.cells, rfl⟩ hC14 fun p3 w15 hw7 hb9 hl15 hC15 => ?_)
        have ho28 := ho26.no hb9
        have ho29 := ho27.no hb9
        have hr12 := hr11.no hb9
        exact ⟨hb9, hw7⟩
      · intro w16 D hS7 hd7
        have hl16 := Le.no M1 hS7
        have hC16 := hC4.no hS7
        have ho30 := ho6.no hS7
        have ho31 := ho7.no hS7
        have hr13 := hw2.no hS7
        have hd7 : PV (RSlice RSpan) M1 [({ Lo := 0, Hi := x1 } : Span)] (D 5) w16 ∧ True := hd7
        obtain ⟨d5, -⟩ := hd7
        obtain ⟨v6, hq2⟩ : ∃ v, (D 5) = v := ⟨_, rfl⟩
        rw [hq2] at d5
        refine dg_sub (E' := [(13, v6)]) ⟨(congrArg some hq2), trivial⟩ ?_
        obtain ⟨A1, c1, rfl, -⟩ := vslice_shape d5
        refine dg_plain rfl (ow_buildSlice (R := (RSlice RSpan)) (xs := [[({ Lo := 0, Hi := x1 } : Span)]]) (cs := #[(.slice A1 [({ Lo := 0, Hi := x1 } : Span)].length c1)]) (e := 93) rfl rfl (by kernel_rfl) rfl rfl ⟨_, _, rfl, d5.cells, rfl⟩ hC16 fun p4 w17 hw8 hb10 hl17 hC17 => ?_)
        have ho32 := ho30.no hb10
        have ho33 := ho31.no hb10
        have hr14 := hr13.no hb10
        exact ⟨hb10, hw8⟩
      · intro w18 D hS8 hd8
        have hl18 := Le.no M1 hS8
        have hC18 := hC4.no hS8
        have ho34 := ho6.no hS8
        have ho35 := ho7.no hS8
        have hr15 := hw2.no hS8
        have hd8 : PEq (.pointer (some ⟨g2, 0, none⟩)) (D 0) w18 ∧ PEq v2 (D 1) w18 ∧ PEq (.int .i64 k1) (D 2) w18 ∧ PEq (.int .i64 x1) (D 3) w18 ∧ PV RSpan M1 ({ Lo := 0, Hi := x1 } : Span) (D 4) w18 ∧ PV (RSlice RSpan) M1 [({ Lo := 0, Hi := x1 } : Span)] (D 5) w18 ∧ PV (RSlice (RSlice RSpan)) M1 [[({ Lo := 0, Hi := x1 } : Span)]] (D 6) w18 ∧ True := hd8
        obtain ⟨-, d7, -, -, -, -, d12, -⟩ := hd8
        obtain ⟨v7, hq3⟩ : ∃ v, (D 6) = v := ⟨_, rfl⟩
        rw [hq3] at d12
        refine lw_sub (E' := [(9, v2), (14, v7), (0, (.pointer (some ⟨g1, 0, none⟩))), (1, (.pointer (some ⟨g2, 0, none⟩))), (2, (.int .i64 k1))]) ⟨(congrArg some d7), (congrArg some hq3), rfl, rfl, rfl, trivial⟩ ?_
        replace hb4 := bind_some hb4
        obtain ⟨z1, hz1, hb4⟩ := hb4
        refine lw_op rfl rfl rfl (ow_append (R := (RSlice RSpan)) rfl rfl rfl rfl Tryd.underlying22 hi93 hz93 hs93 hy93 rfl rfl rfl rfl hr15 d12 hz1 hC18 fun v8 w19 M2 hr16 hb11 hl19 hC19 hM1 hat1 => ?_)
        have ho36 := ho34.go hb11 (fun e => (orow_ne hr15 ho34 (by decide)) e)
        have hm6 := hM1 _ hm4
        have ho37 := ho35.go hb11 (fun e => (orow_ne hr15 ho35 (by decide)) e)
        have hm7 := hM1 _ hm5
        refine lw_op rfl rfl rfl (ow_fieldAddr rfl rfl Tryd.underlying24 rfl (Tryd.sizeOf22 _) ?_)
        obtain ⟨A2, c2, rfl⟩ := hr16.len
        refine lw_op0 rfl rfl (ow_store (X := No) (us := [(.slice A2 z1.length c2)]) (cs' := #[(.slice A2 z1.length c2)]) rfl rfl rfl rfl ho37 (Tryd.sizeOf22 _) rfl rfl rfl rfl hm7 (.inl hg4) rfl hC19 fun w20 ho38 hb12 hl20 hC20 => ?_)
        have ho39 := ho36.go hb12 (fun e => hn1 e)
        have hr17 := hr16.go hb12 (fun k hk e => (orow_ne hr16 ho37 (by decide)) (hk.trans (congrArg some e))) hl20 (fun _ h => h)
        refine lw_nil ?_
        refine ew_blockN ?_
        refine ew_then ?_
        refine cw_region ?_
        refine lw_op rfl rfl rfl (ow_move rfl rfl ?_)
        refine lw_op rfl rfl rfl (ow_add rfl rfl rfl ?_)
        refine lw_op rfl rfl rfl (ow_assign rfl rfl ?_)
        refine lw_nil ?_
        refine ew_nxt ((W (k1 + 1)), z1) hb4 fun a ha => ⟨M2, (.slice A2 z1.length c2), ?_, (((hl4.trans hl18).trans hl19).trans hl20), hC20, hr17, ho39, hm6, ho38, hm7⟩
        exact ha.sub ⟨rfl, rfl, rfl, trivial⟩
    · obtain rfl := hbb1.trans hc1
      refine cw_false rfl ?_
      refine cw_exit ?_
      refine ew_thenX ?_
      refine ew_thenX ?_
      refine ew_blockX ?_
      refine ew_brk (k1, y1) hb4 fun a ha => ⟨M1, v2, ?_, hl4, hC4, hw2, ho6, hm4, ho7, hm5⟩
      exact ha.sub ⟨rfl, rfl, rfl, trivial⟩
  · rintro ⟨k2, y2⟩ a w21 hlr2 ⟨M3, v10, hF2, hl21, hC21, hw9, ho40, hm8, ho41, hm9⟩
    subst hlr2
    refine ew_at (E := [(0, (.pointer (some ⟨g1, 0, none⟩))), (1, (.pointer (some ⟨g2, 0, none⟩))), (2, (.int .i64 k2))]) hF2 ?_
    refine ew_then ?_
    refine cw_seq ?_
    refine cw_region ?_
    refine lw_op rfl rfl rfl (ow_loadOwnA rfl rfl rfl ho41 (Tryd.isAgg24 _) (Tryd.sizeOf24 _) rfl ?_)
    have hw10 := hw9.freezeDel
    have hC22 := hw9.cxDel hC21 (fun _ e => e.elim) hO
    have hl22 := Le.del w21 M3 v10
    have hm10 : (Del v10 M3) g1 := ⟨hm8, fun e => (orow_ne hw9 ho40 (by decide)) e⟩
    have hm11 : (Del v10 M3) g2 := ⟨hm9, fun e => (orow_ne hw9 ho41 (by decide)) e⟩
    obtain ⟨A3, c3, rfl, -⟩ := vslice_shape hw10
    have hw11 : VRep RBox w21 (Del (.slice A3 y2.length c3) M3) ({ Sides := y2 } : Box) (.agg #[(.slice A3 y2.length c3)]) := shut_Box hw10
    refine lw_op0 rfl rfl (ow_store (X := No) (us := [(.slice A3 y2.length c3)]) (cs' := #[(.slice A3 y2.length c3)]) rfl rfl rfl rfl ho40 (Tryd.sizeOf24 _) rfl rfl rfl rfl hm10 (.inl hg2) rfl hC22 fun w22 ho42 hb13 hl23 hC23 => ?_)
    have ho43 := ho41.go hb13 (fun e => hn1 e.symm)
    refine lw_nil ?_
    refine ew_then ?_
    refine cw_ret ?_
    have hw12 : VRep RBox w22 (Del (.slice A3 y2.length c3) M3) ({ Sides := y2 } : Box) (.agg #[(.slice A3 y2.length c3)]) := shut_Box (VRep.mono hl23 hw10)
    obtain rfl := Option.some.inj h
    exact ew_ret (res1 rfl (.cell rfl (own_loadVarA ho42 (Tryd.isAgg24 _) (Tryd.sizeOf24 _) rfl))) ⟨_, rfl, (hw12.mono hC23.back), hC23.bx⟩

theorem wo_spec_BoxAll {w : World} {M : Nat → Prop} (hG : ARep (RArr 4 RShape) w M shapes ⟨0, 0, none⟩) (hO : ∀ b, M b → b < w.heap.size)  {r : Box} (h : F.spec_BoxAll = some r) :
    Calls Tryd.prog 15 [].toArray w fun e w' => ∃ v, e = .returned v ∧ (∃ M' u, v = .agg #[u] ∧ OwnRow (RSlice RSpan) w.heap.size 93 w' M' r.Sides u ∧ Cx No w M w' M') ∧ BX No w w' := by
  obtain ⟨i93, hi93, hz93, hs93, hy93⟩ := info93
  have hC : Cx No w M w M := Cx.start hO (fun _ e => e.elim)
  refine walk (N := 18) Tryd.func15 rfl Tryd.ntmps15 rfl ?_
  refine cw_seq ?_
  refine cw_region ?_
  refine lw_op rfl rfl rfl (ow_alloc rfl (Tryd.zeroValue24 _) hC fun g1 w1 hg1 hg2 ho1 hb1 hl1 hC1 => ?_)
  have hm1 : (Add g1 M) g1 := .inl rfl
  refine lw_nil ?_
  refine ew_then ?_
  refine cw_seq ?_
  refine cw_region ?_
  refine lw_op rfl rfl rfl (ow_build (v := .agg #[(.slice none 0 0)]) rfl rfl (by kernel_rfl) ?_)
  have hw1 : VRep RBox w1 (Add g1 M) ({ Sides := ([] : List (List Span)) } : Box) (.agg #[(.slice none 0 0)]) := shut_Box (vslice_nil (R := (RSlice RSpan)) (w := w1) (M := (Add g1 M)))
  refine lw_op rfl rfl rfl (ow_alloc rfl (Tryd.zeroValue24 _) hC1 fun g2 w2 hg3 hg4 ho2 hb2 hl2 hC2 => ?_)
  have hn1 := Nat.ne_of_lt (Nat.lt_of_lt_of_le ho1.lt hg3)
  have ho3 := ho1.no hb2
  have hm2 : (Add g2 (Add g1 M)) g1 := .inr hm1
  have hm3 : (Add g2 (Add g1 M)) g2 := .inl rfl
  refine lw_op0 rfl rfl (ow_store (X := No) (us := [(.slice none 0 0)]) (cs' := #[(.slice none 0 0)]) rfl rfl rfl rfl ho2 (Tryd.sizeOf24 _) rfl rfl rfl rfl hm3 (.inl hg4) rfl hC2 fun w3 ho4 hb3 hl3 hC3 => ?_)
  have ho5 := ho3.go hb3 (fun e => hn1 e)
  refine lw_nil ?_
  refine ew_then ?_
  refine cw_seq ?_
  refine cw_seq ?_
  refine cw_region ?_
  refine lw_op rfl rfl rfl (ow_assign rfl rfl ?_)
  refine lw_nil ?_
  refine ew_then ?_
  have hr1 : OwnRow (RSlice RSpan) w.heap.size 93 w3 (Add g2 (Add g1 M)) ([] : List (List Span)) (.slice none 0 0) := ownrow_nil
  replace h := bind_some h
  obtain ⟨lr1, hlr1, h⟩ := h
  refine cw_for hlr1 (fun s a w' => ∃ (M' : Nat → Prop) (v1c : Value), Fits 18 [(0, (.pointer (some ⟨g1, 0, none⟩))), (1, (.pointer (some ⟨g2, 0, none⟩))), (2, (.int .i64 s.1))] a ∧ Le w3 (Add g2 (Add g1 M)) w' M' ∧ Cx No w M w' M' ∧ OwnRow (RSlice RSpan) w.heap.size 93 w' M' s.2 v1c ∧ Own w' g1 24 #[(.slice none 0 0)] ∧ M' g1 ∧ Own w' g2 24 #[v1c] ∧ M' g2) ?_ ?_ ?_
  · intro a ha
    exact ⟨(Add g2 (Add g1 M)), (.slice none 0 0), ha.sub ⟨rfl, rfl, rfl, trivial⟩, Le.refl _ _, hC3, hr1, ho5, hm2, ho4, hm3⟩
  · rintro ⟨k1, y1⟩ a w4 sr1 ⟨M1, v2, hF1, hl4, hC4, hw2, ho6, hm4, ho7, hm5⟩ hb4 hR1
    refine cw_at (E := [(0, (.pointer (some ⟨g1, 0, none⟩))), (1, (.pointer (some ⟨g2, 0, none⟩))), (2, (.int .i64 k1))]) hF1 ?_
    refine cw_seq ?_
    refine cw_seq ?_
    refine cw_region ?_
    refine lw_op rfl rfl rfl (ow_move rfl rfl ?_)
    refine lw_op rfl rfl rfl (ow_lss rfl rfl rfl fun bb1 hbb1 => ?_)
    refine lw_nil ?_
    refine ew_then ?_
    replace hb4 := cond_some hb4
    rcases hb4 with ⟨hc1, hb4⟩ | ⟨hc1, hb4⟩
    · obtain rfl := hbb1.trans hc1
      refine cw_true rfl ?_
      refine cw_skip ?_
      refine ew_then ?_
      refine cw_seq ?_
      refine cw_block ?_
      replace hb4 := bind_some hb4
      obtain ⟨x1, hx1, hb4⟩ := hb4
      refine cw_sub (E' := [(0, (.pointer (some ⟨g1, 0, none⟩))), (1, (.pointer (some ⟨g2, 0, none⟩))), (2, (.int .i64 k1))]) ⟨rfl, rfl, rfl, trivial⟩ ?_
      refine cw_drawQ 7 [PEq (.pointer (some ⟨g2, 0, none⟩)), PEq v2, PEq (.int .i64 k1), PEq (.int .i64 x1), PV RSpan M1 ({ Lo := 0, Hi := x1 } : Span), PV (RSlice RSpan) M1 [({ Lo := 0, Hi := x1 } : Span)], PV (RSlice (RSlice RSpan)) M1 [[({ Lo := 0, Hi := x1 } : Span)]]] (by kernel_rfl) rfl (by kernel_rfl) ⟨PEq.mono _, PEq.mono _, PEq.mono _, PEq.mono _, PV.mono _ _ _, PV.mono _ _ _, PV.mono _ _ _, trivial⟩ ⟨?_, ?_, ?_, ?_, ?_, ?_, ?_, trivial⟩ ?_
      · intro w8 D hS1 hd1
        have hl8 := Le.no M1 hS1
        have hC8 := hC4.no hS1
        have ho14 := ho6.no hS1
        have ho15 := ho7.no hS1
        have hr5 := hw2.no hS1
        refine dg_sub (E' := [(1, (.pointer (some ⟨g2, 0, none⟩)))]) ⟨rfl, trivial⟩ ?_
        refine dg_plain rfl (ow_fieldAddr rfl rfl Tryd.underlying24 rfl (Tryd.sizeOf22 _) ?_)
        exact ⟨BX.refl _ _, rfl⟩
      · intro w9 D hS2 hd2
        have hl9 := Le.no M1 hS2
        have hC9 := hC4.no hS2
        have ho16 := ho6.no hS2
        have ho17 := ho7.no hS2
        have hr6 := hw2.no hS2
        have hd2 : PEq (.pointer (some ⟨g2, 0, none⟩)) (D 0) w9 ∧ True := hd2
        obtain ⟨d1, -⟩ := hd2
        refine dg_sub (E' := [(8, (.pointer (some ⟨g2, 0, none⟩)))]) ⟨(congrArg some d1), trivial⟩ ?_
        refine dg_plain rfl (ow_loadOwn1 rfl rfl rfl ho17 (Tryd.isAgg22 _) rfl ?_)
        exact ⟨BX.refl _ _, rfl⟩
      · intro w10 D hS3 hd3
        have hl10 := Le.no M1 hS3
        have hC10 := hC4.no hS3
        have ho18 := ho6.no hS3
        have ho19 := ho7.no hS3
        have hr7 := hw2.no hS3
        refine dg_sub (E' := [(2, (.int .i64 k1))]) ⟨rfl, trivial⟩ ?_
        refine dg_plain rfl (ow_move rfl rfl ?_)
        exact ⟨BX.refl _ _, rfl⟩
      · intro w11 D hS4 hd4
        have hl11 := Le.no M1 hS4
        have hC11 := hC4.no hS4
        have ho20 := ho6.no hS4
        have ho21 := ho7.no hS4
        have hr8 := hw2.no hS4
        have hd4 : PEq (.int .i64 k1) (D 2) w11 ∧ True := hd4
        obtain ⟨d2, -⟩ := hd4
        refine dg_sub (E' := [(10, (.int .i64 k1))]) ⟨(congrArg some d2), trivial⟩ ?_
        refine dg_plain rfl (ow_call rfl rfl Tryd.call65 (w_spec_FieldTop (hG.mono ((((hl1.trans hl2).trans hl3).trans hl4).trans hl11)) hC11.old hx1) fun v4 w12 hv4 => ?_)
        obtain ⟨hv4, hb8⟩ := hv4
        have hl12 := Le.no M1 hb8
        have hC12 := hC11.no hb8
        have ho22 := ho20.no hb8
        have ho23 := ho21.no hb8
        have hr9 := hr8.no hb8
        obtain rfl := vint_eq hv4
        exact ⟨hb8, rfl⟩
      · intro w13 D hS5 hd5
        have hl13 := Le.no M1 hS5
        have hC13 := hC4.no hS5
        have ho24 := ho6.no hS5
        have ho25 := ho7.no hS5
        have hr10 := hw2.no hS5
        have hd5 : PEq (.int .i64 x1) (D 3) w13 ∧ True := hd5
        obtain ⟨d3, -⟩ := hd5
        refine dg_sub (E' := [(11, (.int .i64 x1))]) ⟨(congrArg some d3), trivial⟩ ?_
        refine dg_plain rfl (ow_build (v := .agg #[(.int .i64 0), (.int .i64 x1)]) rfl rfl (by kernel_rfl) ?_)
        have hw6 : VRep RSpan w13 M1 ({ Lo := 0, Hi := x1 } : Span) (.agg #[(.int .i64 0), (.int .i64 x1)]) := shut_Span
        exact ⟨BX.refl _ _, hw6⟩
      · intro w14 D hS6 hd6
        have hl14 := Le.no M1 hS6
        have hC14 := hC4.no hS6
        have ho26 := ho6.no hS6
        have ho27 := ho7.no hS6
        have hr11 := hw2.no hS6
        have hd6 : PV RSpan M1 ({ Lo := 0, Hi := x1 } : Span) (D 4) w14 ∧ True := hd6
        obtain ⟨d4, -⟩ := hd6
        obtain ⟨v5, hq1⟩ : ∃ v, (D 4) = v := ⟨_, rfl⟩
        rw [hq1] at d4
        refine dg_sub (E' := [(12, v5)]) ⟨(congrArg some hq1), trivial⟩ ?_
        obtain rfl := open_Span d4
        refine dg_plain rfl (ow_buildSlice (R := RSpan) (xs := [({ Lo := 0, Hi := x1 } : Span)]) (cs := #[(.int .i64 ({ Lo := 0, Hi := x1 } : Span).Lo), (.int .i64 ({ Lo := 0, Hi := x1 } : Span).Hi)]) (e := 92) rfl rfl (by kernel_rfl) rfl rfl ⟨_, _, rfl, d4.cells, rfl⟩ hC14 fun p3 w15 hw7 hb9 hl15 hC15 => ?_)
        have ho28 := ho26.no hb9
        have ho29 := ho27.no hb9
        have hr12 := hr11.no hb9
        exact ⟨hb9, hw7⟩
      · intro w16 D hS7 hd7
        have hl16 := Le.no M1 hS7
        have hC16 := hC4.no hS7
        have ho30 := ho6.no hS7
        have ho31 := ho7.no hS7
        have hr13 := hw2.no hS7
        have hd7 : PV (RSlice RSpan) M1 [({ Lo := 0, Hi := x1 } : Span)] (D 5) w16 ∧ True := hd7
        obtain ⟨d5, -⟩ := hd7
        obtain ⟨v6, hq2⟩ : ∃ v, (D 5) = v := ⟨_, rfl⟩
        rw [hq2] at d5
        refine dg_sub (E' := [(13, v6)]) ⟨(congrArg some hq2), trivial⟩ ?_
        obtain ⟨A1, c1, rfl, -⟩ := vslice_shape d5
        refine dg_plain rfl (ow_buildSlice (R := (RSlice RSpan)) (xs := [[({ Lo := 0, Hi := x1 } : Span)]]) (cs := #[(.slice A1 [({ Lo := 0, Hi := x1 } : Span)].length c1)]) (e := 93) rfl rfl (by kernel_rfl) rfl rfl ⟨_, _, rfl, d5.cells, rfl⟩ hC16 fun p4 w17 hw8 hb10 hl17 hC17 => ?_)
        have ho32 := ho30.no hb10
        have ho33 := ho31.no hb10
        have hr14 := hr13.no hb10
        exact ⟨hb10, hw8⟩
      · intro w18 D hS8 hd8
        have hl18 := Le.no M1 hS8
        have hC18 := hC4.no hS8
        have ho34 := ho6.no hS8
        have ho35 := ho7.no hS8
        have hr15 := hw2.no hS8
        have hd8 : PEq (.pointer (some ⟨g2, 0, none⟩)) (D 0) w18 ∧ PEq v2 (D 1) w18 ∧ PEq (.int .i64 k1) (D 2) w18 ∧ PEq (.int .i64 x1) (D 3) w18 ∧ PV RSpan M1 ({ Lo := 0, Hi := x1 } : Span) (D 4) w18 ∧ PV (RSlice RSpan) M1 [({ Lo := 0, Hi := x1 } : Span)] (D 5) w18 ∧ PV (RSlice (RSlice RSpan)) M1 [[({ Lo := 0, Hi := x1 } : Span)]] (D 6) w18 ∧ True := hd8
        obtain ⟨-, d7, -, -, -, -, d12, -⟩ := hd8
        obtain ⟨v7, hq3⟩ : ∃ v, (D 6) = v := ⟨_, rfl⟩
        rw [hq3] at d12
        refine lw_sub (E' := [(9, v2), (14, v7), (0, (.pointer (some ⟨g1, 0, none⟩))), (1, (.pointer (some ⟨g2, 0, none⟩))), (2, (.int .i64 k1))]) ⟨(congrArg some d7), (congrArg some hq3), rfl, rfl, rfl, trivial⟩ ?_
        replace hb4 := bind_some hb4
        obtain ⟨z1, hz1, hb4⟩ := hb4
        refine lw_op rfl rfl rfl (ow_append (R := (RSlice RSpan)) rfl rfl rfl rfl Tryd.underlying22 hi93 hz93 hs93 hy93 rfl rfl rfl rfl hr15 d12 hz1 hC18 fun v8 w19 M2 hr16 hb11 hl19 hC19 hM1 hat1 => ?_)
        have ho36 := ho34.go hb11 (fun e => (orow_ne hr15 ho34 (by decide)) e)
        have hm6 := hM1 _ hm4
        have ho37 := ho35.go hb11 (fun e => (orow_ne hr15 ho35 (by decide)) e)
        have hm7 := hM1 _ hm5
        refine lw_op rfl rfl rfl (ow_fieldAddr rfl rfl Tryd.underlying24 rfl (Tryd.sizeOf22 _) ?_)
        obtain ⟨A2, c2, rfl⟩ := hr16.len
        refine lw_op0 rfl rfl (ow_store (X := No) (us := [(.slice A2 z1.length c2)]) (cs' := #[(.slice A2 z1.length c2)]) rfl rfl rfl rfl ho37 (Tryd.sizeOf22 _) rfl rfl rfl rfl hm7 (.inl hg4) rfl hC19 fun w20 ho38 hb12 hl20 hC20 => ?_)
        have ho39 := ho36.go hb12 (fun e => hn1 e)
        have hr17 := hr16.go hb12 (fun k hk e => (orow_ne hr16 ho37 (by decide)) (hk.trans (congrArg some e))) hl20 (fun _ h => h)
        refine lw_nil ?_
        refine ew_blockN ?_
        refine ew_then ?_
        refine cw_region ?_
        refine lw_op rfl rfl rfl (ow_move rfl rfl ?_)
        refine lw_op rfl rfl rfl (ow_add rfl rfl rfl ?_)
        refine lw_op rfl rfl rfl (ow_assign rfl rfl ?_)
        refine lw_nil ?_
        refine ew_nxt ((W (k1 + 1)), z1) hb4 fun a ha => ⟨M2, (.slice A2 z1.length c2), ?_, (((hl4.trans hl18).trans hl19).trans hl20), hC20, hr17, ho39, hm6, ho38, hm7⟩
        exact ha.sub ⟨rfl, rfl, rfl, trivial⟩
    · obtain rfl := hbb1.trans hc1
      refine cw_false rfl ?_
      refine cw_exit ?_
      refine ew_thenX ?_
      refine ew_thenX ?_
      refine ew_blockX ?_
      refine ew_brk (k1, y1) hb4 fun a ha => ⟨M1, v2, ?_, hl4, hC4, hw2, ho6, hm4, ho7, hm5⟩
      exact ha.sub ⟨rfl, rfl, rfl, trivial⟩
  · rintro ⟨k2, y2⟩ a w21 hlr2 ⟨M3, v10, hF2, hl21, hC21, hw9, ho40, hm8, ho41, hm9⟩
    subst hlr2
    refine ew_at (E := [(0, (.pointer (some ⟨g1, 0, none⟩))), (1, (.pointer (some ⟨g2, 0, none⟩))), (2, (.int .i64 k2))]) hF2 ?_
    refine ew_then ?_
    refine cw_seq ?_
    refine cw_region ?_
    obtain ⟨A3, c3, rfl⟩ := hw9.len
    refine lw_op rfl rfl rfl (ow_loadOwnA rfl rfl rfl ho41 (Tryd.isAgg24 _) (Tryd.sizeOf24 _) rfl ?_)
    refine lw_op0 rfl rfl (ow_store (X := No) (us := [(.slice A3 y2.length c3)]) (cs' := #[(.slice A3 y2.length c3)]) rfl rfl rfl rfl ho40 (Tryd.sizeOf24 _) rfl rfl rfl rfl hm8 (.inl hg2) rfl hC21 fun w22 ho42 hb13 hl22 hC22 => ?_)
    have ho43 := ho41.go hb13 (fun e => hn1 e.symm)
    have hr18 := hw9.go hb13 (fun k hk e => (orow_ne hw9 ho40 (by decide)) (hk.trans (congrArg some e))) hl22 (fun _ h => h)
    refine lw_nil ?_
    refine ew_then ?_
    refine cw_ret ?_
    obtain rfl := Option.some.inj h
    exact ew_ret (res1 rfl (.cell rfl (own_loadVarA ho42 (Tryd.isAgg24 _) (Tryd.sizeOf24 _) rfl))) ⟨_, rfl, ⟨M3, _, rfl, hr18, hC22⟩, hC22.bx⟩

theorem w_impl_FieldTop {w : World} {M : Nat → Prop} (hG : ARep (RArr 4 RShape) w M shapes ⟨0, 0, none⟩) (hO : ∀ b, M b → b < w.heap.size) {a_n : Int} {r : Int} (h : F.impl_FieldTop a_n = some r) :
    Calls Tryd.prog 75 [(.int .i64 a_n)].toArray w fun e w' => ∃ v, e = .returned v ∧ VRep RInt w' M r v ∧ BX No w w' := by
  have hC : Cx No w M w M := Cx.start hO (fun _ e => e.elim)
  refine walk (N := 13) Tryd.func75 rfl Tryd.ntmps75 rfl ?_
  refine cw_seq ?_
  refine cw_region ?_
  refine lw_op rfl rfl rfl (ow_assign rfl rfl ?_)
  refine lw_nil ?_
  refine ew_then ?_
  refine cw_seq ?_
  refine cw_seq ?_
  refine cw_region ?_
  refine lw_op rfl rfl rfl (ow_move rfl rfl ?_)
  refine lw_op rfl rfl rfl (ow_lss rfl rfl rfl fun bb1 hbb1 => ?_)
  refine lw_op rfl rfl rfl (ow_move rfl rfl ?_)
  replace h := cond_some h
  rcases h with ⟨hc1, h⟩ | ⟨hc1, h⟩
  · obtain rfl := hbb1.trans hc1
    refine lw_off rfl rfl rfl rfl rfl rfl ?_
    refine lw_off rfl rfl rfl rfl rfl rfl ?_
    refine lw_op rfl rfl rfl (ow_pickT rfl rfl rfl ?_)
    refine lw_nil ?_
    refine ew_then ?_
    refine cw_true rfl ?_
    refine cw_seq ?_
    refine cw_region ?_
    refine lw_op rfl rfl rfl (ow_assign rfl rfl ?_)
    refine lw_nil ?_
    refine ew_then ?_
    refine cw_ret ?_
    refine ew_thenR ?_
    obtain rfl := Option.some.inj h
    exact ew_ret (res1 rfl (.tmp rfl)) ⟨_, rfl, ((vint _)), hC.bx⟩
  · obtain rfl := hbb1.trans hc1
    refine lw_on rfl rfl rfl rfl rfl rfl (ow_move rfl rfl ?_)
    refine lw_on rfl rfl rfl rfl rfl rfl (ow_geq rfl rfl rfl fun bb2 hbb2 => ?_)
    refine lw_op rfl rfl rfl (ow_pickF rfl rfl rfl ?_)
    refine lw_nil ?_
    refine ew_then ?_
    replace h := cond_some h
    rcases h with ⟨hc2, h⟩ | ⟨hc2, h⟩
    · obtain rfl := hbb2.trans hc2
      refine cw_true rfl ?_
      refine cw_seq ?_
      refine cw_region ?_
      refine lw_op rfl rfl rfl (ow_assign rfl rfl ?_)
      refine lw_nil ?_
      refine ew_then ?_
      refine cw_ret ?_
      refine ew_thenR ?_
      obtain rfl := Option.some.inj h
      exact ew_ret (res1 rfl (.tmp rfl)) ⟨_, rfl, ((vint _)), hC.bx⟩
    · obtain rfl := hbb2.trans hc2
      refine cw_false rfl ?_
      refine cw_skip ?_
      refine ew_then ?_
      refine cw_seq ?_
      refine cw_region ?_
      refine lw_op rfl rfl rfl (ow_move rfl rfl ?_)
      replace h := bind_some h
      obtain ⟨x1, hx1, h⟩ := h
      refine lw_op rfl rfl rfl (ow_indexArr (R := RShape) rfl rfl rfl hG Tryd.underlying140 (Tryd.sizeOf139 _) hx1 fun p1 hp1 => ?_)
      refine lw_op rfl rfl rfl (ow_fieldAddr rfl rfl Tryd.underlying139 rfl (Tryd.sizeOf3 _) ?_)
      refine lw_op rfl rfl rfl (ow_load (R := RInt) rfl rfl (hp1.fld fld_Shape_top) (Tryd.sizeOf3 _) (Tryd.isAgg3 _) fun v1 hv1 => ?_)
      obtain rfl := vint_eq hv1
      refine lw_op rfl rfl rfl (ow_assign rfl rfl ?_)
      refine lw_nil ?_
      refine ew_then ?_
      refine cw_ret ?_
      obtain rfl := Option.some.inj h
      exact ew_ret (res1 rfl (.tmp rfl)) ⟨_, rfl, ((vint _)), hC.bx⟩

theorem w_impl_allSides {w : World} {M : Nat → Prop} (hG : ARep (RArr 4 RShape) w M shapes ⟨0, 0, none⟩) (hO : ∀ b, M b → b < w.heap.size)  {r : (List (List Span))} (h : F.impl_allSides = some r) :
    Calls Tryd.prog 66 [].toArray w fun e w' => ∃ v, e = .returned v ∧ VRep (RArr 4 (RSlice RSpan)) w' M r v ∧ BX No w w' := by
  have hC : Cx No w M w M := Cx.start hO (fun _ e => e.elim)
  refine walk (N := 14) Tryd.func66 rfl Tryd.ntmps66 rfl ?_
  refine cw_seq ?_
  refine cw_region ?_
  refine lw_op rfl rfl rfl (ow_alloc rfl (Tryd.zeroValue95 _) hC fun g1 w1 hg1 hg2 ho1 hb1 hl1 hC1 => ?_)
  have hm1 : (Add g1 M) g1 := .inl rfl
  have ho2 : OwnA (RArr 4 (RSlice RSpan)) w1 (Add g1 M) g1 95 [([] : List Span), ([] : List Span), ([] : List Span), ([] : List Span)] := OwnA.of ho1 ⟨rfl, ⟨_, _, rfl, (vslice_nil (R := RSpan) (w := w1) (M := (Add g1 M))).cells, _, _, rfl, (vslice_nil (R := RSpan) (w := w1) (M := (Add g1 M))).cells, _, _, rfl, (vslice_nil (R := RSpan) (w := w1) (M := (Add g1 M))).cells, _, _, rfl, (vslice_nil (R := RSpan) (w := w1) (M := (Add g1 M))).cells, rfl⟩⟩
  refine lw_nil ?_
  refine ew_then ?_
  refine cw_seq ?_
  refine cw_region ?_
  refine lw_op rfl rfl rfl (ow_alloc rfl (Tryd.zeroValue95 _) hC1 fun g2 w2 hg3 hg4 ho3 hb2 hl2 hC2 => ?_)
  have hn1 := Nat.ne_of_lt (Nat.lt_of_lt_of_le ho2.lt hg3)
  have ho4 := ho2.no hb2 hl2
  have hm2 : (Add g2 (Add g1 M)) g1 := .inr hm1
  have hm3 : (Add g2 (Add g1 M)) g2 := .inl rfl
  have ho5 : OwnA (RArr 4 (RSlice RSpan)) w2 (Add g2 (Add g1 M)) g2 95 [([] : List Span), ([] : List Span), ([] : List Span), ([] : List Span)] := OwnA.of ho3 ⟨rfl, ⟨_, _, rfl, (vslice_nil (R := RSpan) (w := w2) (M := (Add g2 (Add g1 M)))).cells, _, _, rfl, (vslice_nil (R := RSpan) (w := w2) (M := (Add g2 (Add g1 M)))).cells, _, _, rfl, (vslice_nil (R := RSpan) (w := w2) (M := (Add g2 (Add g1 M)))).cells, _, _, rfl, (vslice_nil (R := RSpan) (w := w2) (M := (Add g2 (Add g1 M)))).cells, rfl⟩⟩
  refine lw_nil ?_
  refine ew_then ?_
  refine cw_seq ?_
  refine cw_seq ?_
  refine cw_region ?_
  refine lw_op rfl rfl rfl (ow_move rfl rfl ?_)
  refine lw_nil ?_
  refine ew_then ?_
  replace h := bind_some h
  obtain ⟨lr1, hlr1, h⟩ := h
  refine cw_for hlr1 (fun s a w' => ∃ (M' : Nat → Prop), Fits 14 [(0, (.pointer (some ⟨g1, 0, none⟩))), (1, (.pointer (some ⟨g2, 0, none⟩))), (3, (.int .i64 s.1))] a ∧ Le w2 (Add g2 (Add g1 M)) w' M' ∧ Cx No w M w' M' ∧ OwnA (RArr 4 (RSlice RSpan)) w' M' g1 95 [([] : List Span), ([] : List Span), ([] : List Span), ([] : List Span)] ∧ M' g1 ∧ OwnA (RArr 4 (RSlice RSpan)) w' M' g2 95 s.2 ∧ M' g2) ?_ ?_ ?_
  · intro a ha
    exact ⟨(Add g2 (Add g1 M)), ha.sub ⟨rfl, rfl, rfl, trivial⟩, Le.refl _ _, hC2, ho4, hm2, ho5, hm3⟩
  · rintro ⟨k1, y1⟩ a w3 sr1 ⟨M1, hF1, hl3, hC3, ho6, hm4, ho7, hm5⟩ hb3 hR1
    refine cw_at (E := [(0, (.pointer (some ⟨g1, 0, none⟩))), (1, (.pointer (some ⟨g2, 0, none⟩))), (3, (.int .i64 k1))]) hF1 ?_
    refine cw_seq ?_
    refine cw_region ?_
    refine lw_op rfl rfl rfl (ow_lss rfl rfl rfl fun bb1 hbb1 => ?_)
    refine lw_nil ?_
    refine ew_then ?_
    refine cw_seq ?_
    replace hb3 := cond_some hb3
    rcases hb3 with ⟨hc1, hb3⟩ | ⟨hc1, hb3⟩
    · obtain rfl := hbb1.trans hc1
      refine cw_true rfl ?_
      refine cw_skip ?_
      refine ew_then ?_
      refine cw_seq ?_
      refine cw_block ?_
      refine cw_seq ?_
      refine cw_region ?_
      refine lw_op rfl rfl rfl (ow_move rfl rfl ?_)
      refine lw_op rfl rfl rfl (ow_assign rfl rfl ?_)
      refine lw_nil ?_
      refine ew_then ?_
      refine cw_region ?_
      refine lw_op rfl rfl rfl (ow_move rfl rfl ?_)
      refine lw_op rfl rfl rfl (ow_move rfl rfl ?_)
      replace hb3 := bind_some hb3
      obtain ⟨x1, hx1, hb3⟩ := hb3
      refine lw_op rfl rfl rfl (ow_call rfl rfl Tryd.call75 (w_impl_FieldTop (hG.mono ((hl1.trans hl2).trans hl3)) hC3.old hx1) fun v3 w4 hv3 => ?_)
      obtain ⟨hv3, hb4⟩ := hv3
      have hl4 := Le.no M1 hb4
      have hC4 := hC3.no hb4
      have ho8 := ho6.no hb4 hl4
      have ho9 := ho7.no hb4 hl4
      obtain rfl := vint_eq hv3
      refine lw_op rfl rfl rfl (ow_build (v := .agg #[(.int .i64 0), (.int .i64 x1)]) rfl rfl (by kernel_rfl) ?_)
      have hw1 : VRep RSpan w4 M1 ({ Lo := 0, Hi := x1 } : Span) (.agg #[(.int .i64 0), (.int .i64 x1)]) := shut_Span
      refine lw_op rfl rfl rfl (ow_buildSlice (R := RSpan) (xs := [({ Lo := 0, Hi := x1 } : Span)]) (cs := #[(.int .i64 0), (.int .i64 x1)]) (e := 92) rfl rfl (by kernel_rfl) rfl rfl ⟨_, _, rfl, hw1.cells, rfl⟩ hC4 fun p1 w5 hw2 hb5 hl5 hC5 => ?_)
      have ho10 := ho8.no hb5 hl5
      have ho11 := ho9.no hb5 hl5
      replace hb3 := bind_some hb3
      obtain ⟨x2, hx2, hb3⟩ := hb3
      refine lw_op rfl rfl rfl (ow_indexA (R := (RSlice RSpan)) rfl rfl rfl rfl ho11 Tryd.underlying95 (Tryd.sizeOf93 _) hx2 ?_)
      refine lw_op0 rfl rfl (ow_storeElA (X := No) (R := (RSlice RSpan)) rfl rfl rfl rfl ho11 hx2 (Tryd.sizeOf93 _) hw2 hm5 (.inl hg4) hC5 fun w6 ho12 hb6 hl6 hC6 => ?_)
      have ho13 := ho10.go hb6 (fun e => hn1 e) hl6
      refine lw_nil ?_
      refine ew_blockN ?_
      refine ew_then ?_
      refine cw_region ?_
      refine lw_op rfl rfl rfl (ow_add rfl rfl rfl ?_)
      refine lw_op rfl rfl rfl (ow_move rfl rfl ?_)
      refine lw_nil ?_
      refine ew_nxt ((W (k1 + 1)), (List.set y1 (k1 : Int).toNat [({ Lo := 0, Hi := x1 } : Span)])) hb3 fun a ha => ⟨M1, ?_, (((hl3.trans hl4).trans hl5).trans hl6), hC6, ho13, hm4, ho12, hm5⟩
      exact ha.sub ⟨rfl, rfl, rfl, trivial⟩
    · obtain rfl := hbb1.trans hc1
      refine cw_false rfl ?_
      refine cw_exit ?_
      refine ew_thenX ?_
      refine ew_thenX ?_
      refine ew_blockX ?_
      refine ew_brk (k1, y1) hb3 fun a ha => ⟨M1, ?_, hl3, hC3, ho6, hm4, ho7, hm5⟩
      exact ha.sub ⟨rfl, rfl, rfl, trivial⟩
  · rintro ⟨k2, y2⟩ a w7 hlr2 ⟨M2, hF2, hl7, hC7, ho14, hm6, ho15, hm7⟩
    subst hlr2
    refine ew_at (E := [(0, (.pointer (some ⟨g1, 0, none⟩))), (1, (.pointer (some ⟨g2, 0, none⟩))), (3, (.int .i64 k2))]) hF2 ?_
    refine ew_then ?_
    refine cw_seq ?_
    refine cw_region ?_
    refine lw_op rfl rfl rfl (ow_loadA (R := (RArr 4 (RSlice RSpan))) rfl rfl rfl ho15 (Tryd.sizeOf95 _) (Tryd.isAgg95 _) fun v6 hv6 => ?_)
    obtain ⟨cs1, h1, h2⟩ := ho14.own
    refine lw_op0 rfl rfl (ow_storeA (X := No) (R := (RArr 4 (RSlice RSpan))) rfl rfl rfl rfl h1 h2 (Tryd.sizeOf95 _) hv6 hm6 (.inl hg2) hC7 fun w8 ho16 hb7 hl8 hC8 => ?_)
    have ho17 := ho15.go hb7 (fun e => hn1 e.symm) hl8
    refine lw_nil ?_
    refine ew_then ?_
    refine cw_ret ?_
    obtain rfl := Option.some.inj h
    obtain ⟨v7, hq1, hw3⟩ := resA ho16 (Tryd.sizeOf95 _) (Tryd.isAgg95 _) rfl
    exact ew_ret (res1 rfl (.cell rfl hq1)) ⟨_, rfl, (hw3.mono hC8.back), hC8.bx⟩

theorem w_impl_sides_box {w : World} {M : Nat → Prop} (_hG : ARep (RArr 4 RShape) w M shapes ⟨0, 0, none⟩) (hO : ∀ b, M b → b < w.heap.size) {v0p : Value} {a_s : List (List Span)} (h0 : VRep (RArr 4 (RSlice RSpan)) w M a_s v0p) {r : Box} (h : F.impl_sides_box a_s = some r) :
    Calls Tryd.prog 67 [v0p].toArray w fun e w' => ∃ v, e = .returned v ∧ VRep RBox w' M r v ∧ BX No w w' := by
  obtain ⟨i92, hi92, hz92, hs92, hy92⟩ := info92
  obtain ⟨i93, hi93, hz93, hs93, hy93⟩ := info93
  have hC : Cx No w M w M := Cx.start hO (fun _ e => e.elim)
  clear _hG
  refine walk (N := 21) Tryd.func67 rfl Tryd.ntmps67 rfl ?_
  refine cw_seq ?_
  refine cw_region ?_
  refine lw_op rfl rfl rfl (ow_box (R := (RArr 4 (RSlice RSpan))) rfl rfl h0 hC fun p1 w1 hp1 hb1 hl1 hC1 => ?_)
  refine lw_op rfl rfl rfl (ow_alloc rfl (Tryd.zeroValue24 _) hC1 fun g1 w2 hg1 hg2 ho1 hb2 hl2 hC2 => ?_)
  have hm1 : (Add g1 M) g1 := .inl rfl
  refine lw_nil ?_
  refine ew_then ?_
  refine cw_seq ?_
  refine cw_region ?_
  replace h := bind_some h
  obtain ⟨mk1, hmk1, h⟩ := h
  refine lw_op rfl rfl rfl (ow_make (R := (RSlice RSpan)) rfl rfl rfl Tryd.underlying22 hi93 hz93 hs93 hy93 rfl rfl vslice_nil hmk1 hC2 fun v1 w3 M1 hr1 hb3 hl3 hC3 hM1 hat1 => ?_)
  have ho2 := ho1.no hb3
  have hm2 := hM1 _ hm1
  obtain ⟨A1, c1, rfl⟩ := hr1.len
  refine lw_op rfl rfl rfl (ow_build (v := .agg #[(.slice A1 mk1.length c1)]) rfl rfl (by kernel_rfl) ?_)
  refine lw_op rfl rfl rfl (ow_alloc rfl (Tryd.zeroValue24 _) hC3 fun g2 w4 hg3 hg4 ho3 hb4 hl4 hC4 => ?_)
  have hn1 := Nat.ne_of_lt (Nat.lt_of_lt_of_le ho2.lt hg3)
  have ho4 := ho2.no hb4
  have hm3 : (Add g2 M1) g1 := .inr hm2
  have hr2 := hr1.add hb4 hg3
  have hm4 : (Add g2 M1) g2 := .inl rfl
  refine lw_op0 rfl rfl (ow_store (X := No) (us := [(.slice A1 mk1.length c1)]) (cs' := #[(.slice A1 mk1.length c1)]) rfl rfl rfl rfl ho3 (Tryd.sizeOf24 _) rfl rfl rfl rfl hm4 (.inl hg4) rfl hC4 fun w5 ho5 hb5 hl5 hC5 => ?_)
  have ho6 := ho4.go hb5 (fun e => hn1 e)
  have hr3 := hr2.go hb5 (fun k hk e => (orow_ne hr2 ho3 (by decide)) (hk.trans (congrArg some e))) hl5 (fun _ h => h)
  refine lw_nil ?_
  refine ew_then ?_
  refine cw_seq ?_
  refine cw_seq ?_
  refine cw_region ?_
  refine lw_op rfl rfl rfl (ow_load (R := (RArr 4 (RSlice RSpan))) rfl rfl (ARep.mono (((hl2.trans hl3).trans hl4).trans hl5) hp1) (Tryd.sizeOf95 _) (Tryd.isAgg95 _) fun v2 hv2 => ?_)
  refine lw_op rfl rfl rfl (ow_move rfl rfl ?_)
  refine lw_nil ?_
  refine ew_then ?_
  replace h := bind_some h
  obtain ⟨lr1, hlr1, h⟩ := h
  refine cw_for hlr1 (fun s a w' => ∃ (M' : Nat → Prop), Fits 21 [(2, (.pointer (some ⟨g1, 0, none⟩))), (3, (.pointer (some ⟨g2, 0, none⟩))), (8, v2), (9, (.int .i64 s.1))] a ∧ Le w5 (Add g2 M1) w' M' ∧ Cx No w M w' M' ∧ OwnRow (RSlice RSpan) w.heap.size 93 w' M' s.2 (.slice A1 mk1.length c1) ∧ Own w' g1 24 #[(.slice none 0 0)] ∧ M' g1 ∧ Own w' g2 24 #[(.slice A1 mk1.length c1)] ∧ M' g2) ?_ ?_ ?_
  · intro a ha
    exact ⟨(Add g2 M1), ha.sub ⟨rfl, rfl, rfl, rfl, trivial⟩, Le.refl _ _, hC5, hr3, ho6, hm3, ho5, hm4⟩
  · rintro ⟨k1, y1⟩ a w6 sr1 ⟨M2, hF1, hl6, hC6, hw1, ho7, hm5, ho8, hm6⟩ hb6 hR1
    refine cw_at (E := [(2, (.pointer (some ⟨g1, 0, none⟩))), (3, (.pointer (some ⟨g2, 0, none⟩))), (8, v2), (9, (.int .i64 k1))]) hF1 ?_
    refine cw_seq ?_
    refine cw_region ?_
    refine lw_op rfl rfl rfl (ow_lss rfl rfl rfl fun bb1 hbb1 => ?_)
    refine lw_nil ?_
    refine ew_then ?_
    refine cw_seq ?_
    replace hb6 := cond_some hb6
    rcases hb6 with ⟨hc1, hb6⟩ | ⟨hc1, hb6⟩
    · obtain rfl := hbb1.trans hc1
      refine cw_true rfl ?_
      refine cw_skip ?_
      refine ew_then ?_
      refine cw_seq ?_
      refine cw_block ?_
      refine cw_seq ?_
      refine cw_region ?_
      refine lw_op rfl rfl rfl (ow_move rfl rfl ?_)
      replace hb6 := bind_some hb6
      obtain ⟨x1, hx1, hb6⟩ := hb6
      refine lw_op rfl rfl rfl (ow_index (R := (RSlice RSpan)) rfl rfl rfl (VRep.mono hl6 hv2) Tryd.underlying95 (Tryd.sizeOf93 _) (Tryd.isAgg93 _) hx1 fun v5 hv5 => ?_)
      refine lw_op rfl rfl rfl (ow_assign rfl rfl ?_)
      refine lw_op rfl rfl rfl (ow_assign rfl rfl ?_)
      refine lw_nil ?_
      refine ew_then ?_
      replace hb6 := bind_some hb6
      obtain ⟨z1, hz1, hb6⟩ := hb6
      refine cw_sub (E' := [(2, (.pointer (some ⟨g1, 0, none⟩))), (3, (.pointer (some ⟨g2, 0, none⟩))), (4, (.int .i64 k1)), (5, v5), (8, v2), (9, (.int .i64 k1))]) ⟨rfl, rfl, rfl, rfl, rfl, rfl, trivial⟩ ?_
      refine cw_drawQ 5 [PEq (.pointer (some ⟨g2, 0, none⟩)), PEq (.slice A1 mk1.length c1), PEq (.int .i64 k1), PV (RSlice RSpan) M2 x1, PV (RSlice RSpan) M2 z1] (by kernel_rfl) rfl (by kernel_rfl) ⟨PEq.mono _, PEq.mono _, PEq.mono _, PV.mono _ _ _, PV.mono _ _ _, trivial⟩ ⟨?_, ?_, ?_, ?_, ?_, trivial⟩ ?_
      · intro w8 D hS1 hd1
        have hl8 := Le.no M2 hS1
        have hC8 := hC6.no hS1
        have ho11 := ho7.no hS1
        have ho12 := ho8.no hS1
        have hr5 := hw1.no hS1
        refine dg_sub (E' := [(3, (.pointer (some ⟨g2, 0, none⟩)))]) ⟨rfl, trivial⟩ ?_
        refine dg_plain rfl (ow_fieldAddr rfl rfl Tryd.underlying24 rfl (Tryd.sizeOf22 _) ?_)
        exact ⟨BX.refl _ _, rfl⟩
      · intro w9 D hS2 hd2
        have hl9 := Le.no M2 hS2
        have hC9 := hC6.no hS2
        have ho13 := ho7.no hS2
        have ho14 := ho8.no hS2
        have hr6 := hw1.no hS2
        have hd2 : PEq (.pointer (some ⟨g2, 0, none⟩)) (D 0) w9 ∧ True := hd2
        obtain ⟨d1, -⟩ := hd2
        refine dg_sub (E' := [(13, (.pointer (some ⟨g2, 0, none⟩)))]) ⟨(congrArg some d1), trivial⟩ ?_
        refine dg_plain rfl (ow_loadOwn1 rfl rfl rfl ho14 (Tryd.isAgg22 _) rfl ?_)
        exact ⟨BX.refl _ _, rfl⟩
      · intro w10 D hS3 hd3
        have hl10 := Le.no M2 hS3
        have hC10 := hC6.no hS3
        have ho15 := ho7.no hS3
        have ho16 := ho8.no hS3
        have hr7 := hw1.no hS3
        refine dg_sub (E' := [(4, (.int .i64 k1))]) ⟨rfl, trivial⟩ ?_
        refine dg_plain rfl (ow_move rfl rfl ?_)
        exact ⟨BX.refl _ _, rfl⟩
      · intro w11 D hS4 hd4
        have hl11 := Le.no M2 hS4
        have hC11 := hC6.no hS4
        have ho17 := ho7.no hS4
        have ho18 := ho8.no hS4
        have hr8 := hw1.no hS4
        refine dg_sub (E' := [(5, v5)]) ⟨rfl, trivial⟩ ?_
        refine dg_plain rfl (ow_move rfl rfl ?_)
        exact ⟨BX.refl _ _, (VRep.mono hl11 hv5)⟩
      · intro w12 D hS5 hd5
        have hl12 := Le.no M2 hS5
        have hC12 := hC6.no hS5
        have ho19 := ho7.no hS5
        have ho20 := ho8.no hS5
        have hr9 := hw1.no hS5
        have hd5 : PV (RSlice RSpan) M2 x1 (D 3) w12 ∧ True := hd5
        obtain ⟨d2, -⟩ := hd5
        obtain ⟨v7, hq1⟩ : ∃ v, (D 3) = v := ⟨_, rfl⟩
        rw [hq1] at d2
        refine dg_sub (E' := [(16, v7)]) ⟨(congrArg some hq1), trivial⟩ ?_
        refine dg_plain rfl (ow_appendCopy (R := RSpan) rfl rfl rfl rfl Tryd.underlying93 hi92 hz92 hs92 hy92 rfl rfl rfl rfl d2 hz1 hC12 fun v8 w13 hw3 hb8 hl13 hC13 => ?_)
        have ho21 := ho19.no hb8
        have ho22 := ho20.no hb8
        have hr10 := hr9.no hb8
        exact ⟨hb8, hw3⟩
      · intro w14 D hS6 hd6
        have hl14 := Le.no M2 hS6
        have hC14 := hC6.no hS6
        have ho23 := ho7.no hS6
        have ho24 := ho8.no hS6
        have hr11 := hw1.no hS6
        have hd6 : PEq (.pointer (some ⟨g2, 0, none⟩)) (D 0) w14 ∧ PEq (.slice A1 mk1.length c1) (D 1) w14 ∧ PEq (.int .i64 k1) (D 2) w14 ∧ PV (RSlice RSpan) M2 x1 (D 3) w14 ∧ PV (RSlice RSpan) M2 z1 (D 4) w14 ∧ True := hd6
        obtain ⟨-, d4, d5, -, d7, -⟩ := hd6
        obtain ⟨v9, hq2⟩ : ∃ v, (D 4) = v := ⟨_, rfl⟩
        rw [hq2] at d7
        refine lw_sub (E' := [(14, (.slice A1 mk1.length c1)), (15, (.int .i64 k1)), (17, v9), (2, (.pointer (some ⟨g1, 0, none⟩))), (3, (.pointer (some ⟨g2, 0, none⟩))), (4, (.int .i64 k1)), (5, v5), (8, v2), (9, (.int .i64 k1))]) ⟨(congrArg some d4), (congrArg some d5), (congrArg some hq2), rfl, rfl, rfl, rfl, rfl, rfl, trivial⟩ ?_
        replace hb6 := bind_some hb6
        obtain ⟨x2, hx2, hb6⟩ := hb6
        refine lw_op rfl rfl rfl (ow_indexRow (R := (RSlice RSpan)) rfl rfl rfl hr11 Tryd.underlying22 (Tryd.sizeOf93 _) hx2 ?_)
        refine lw_op0 rfl rfl (ow_storeElRow (X := No) (R := (RSlice RSpan)) (S := (RSlice RSpan)) rfl rfl rfl rfl hr11 (orow_blk hr11 hx2) hx2 (FldSet.whole (RSlice RSpan)) (Tryd.sizeOf93 _) d7 (Nat.le_refl _) hC14 fun w15 ho25 hb9 hl15 hC15 => ?_)
        have ho26 := ho23.go hb9 (fun e => (orow_ne hr11 ho23 (by decide)) (by rw [orow_blk hr11 hx2]; exact congrArg some e.symm))
        have ho27 := ho24.go hb9 (fun e => (orow_ne hr11 ho24 (by decide)) (by rw [orow_blk hr11 hx2]; exact congrArg some e.symm))
        refine lw_nil ?_
        refine ew_blockN ?_
        refine ew_then ?_
        refine cw_region ?_
        refine lw_op rfl rfl rfl (ow_add rfl rfl rfl ?_)
        refine lw_op rfl rfl rfl (ow_move rfl rfl ?_)
        refine lw_nil ?_
        refine ew_nxt ((W (k1 + 1)), (List.set y1 (k1 : Int).toNat z1)) hb6 fun a ha => ⟨M2, ?_, ((hl6.trans hl14).trans hl15), hC15, ho25, ho26, hm5, ho27, hm6⟩
        exact ha.sub ⟨rfl, rfl, rfl, rfl, trivial⟩
    · obtain rfl := hbb1.trans hc1
      refine cw_false rfl ?_
      refine cw_exit ?_
      refine ew_thenX ?_
      refine ew_thenX ?_
      refine ew_blockX ?_
      refine ew_brk (k1, y1) hb6 fun a ha => ⟨M2, ?_, hl6, hC6, hw1, ho7, hm5, ho8, hm6⟩
      exact ha.sub ⟨rfl, rfl, rfl, rfl, trivial⟩
  · rintro ⟨k2, y2⟩ a w16 hlr2 ⟨M3, hF2, hl16, hC16, hw4, ho28, hm7, ho29, hm8⟩
    subst hlr2
    refine ew_at (E := [(2, (.pointer (some ⟨g1, 0, none⟩))), (3, (.pointer (some ⟨g2, 0, none⟩))), (8, v2), (9, (.int .i64 k2))]) hF2 ?_
    refine ew_then ?_
    refine cw_seq ?_
    refine cw_region ?_
    refine lw_op rfl rfl rfl (ow_loadOwnA rfl rfl rfl ho29 (Tryd.isAgg24 _) (Tryd.sizeOf24 _) rfl ?_)
    have hw5 := hw4.freezeDel
    have hC17 := hw4.cxDel hC16 (fun _ e => e.elim) hO
    have hl17 := Le.del w16 M3 (.slice A1 mk1.length c1)
    have hm9 : (Del (.slice A1 mk1.length c1) M3) g1 := ⟨hm7, fun e => (orow_ne hw4 ho28 (by decide)) e⟩
    have hm10 : (Del (.slice A1 mk1.length c1) M3) g2 := ⟨hm8, fun e => (orow_ne hw4 ho29 (by decide)) e⟩
    have hw6 : VRep RBox w16 (Del (.slice A1 mk1.length c1) M3) ({ Sides := y2 } : Box) (.agg #[(.slice A1 mk1.length c1)]) := shut_Box hw5
    refine lw_op0 rfl rfl (ow_store (X := No) (us := [(.slice A1 mk1.length c1)]) (cs' := #[(.slice A1 mk1.length c1)]) rfl rfl rfl rfl ho28 (Tryd.sizeOf24 _) rfl rfl rfl rfl hm9 (.inl hg2) rfl hC17 fun w17 ho30 hb10 hl18 hC18 => ?_)
    have ho31 := ho29.go hb10 (fun e => hn1 e.symm)
    refine lw_nil ?_
    refine ew_then ?_
    refine cw_ret ?_
    have hw7 : VRep RBox w17 (Del (.slice A1 mk1.length c1) M3) ({ Sides := y2 } : Box) (.agg #[(.slice A1 mk1.length c1)]) := shut_Box (VRep.mono hl18 hw5)
    obtain rfl := Option.some.inj h
    exact ew_ret (res1 rfl (.cell rfl (own_loadVarA ho30 (Tryd.isAgg24 _) (Tryd.sizeOf24 _) rfl))) ⟨_, rfl, (hw7.mono hC18.back), hC18.bx⟩

theorem w_impl_BoxAll {w : World} {M : Nat → Prop} (hG : ARep (RArr 4 RShape) w M shapes ⟨0, 0, none⟩) (hO : ∀ b, M b → b < w.heap.size)  {r : Box} (h : F.impl_BoxAll = some r) :
    Calls Tryd.prog 16 [].toArray w fun e w' => ∃ v, e = .returned v ∧ VRep RBox w' M r v ∧ BX No w w' := by
  have hC : Cx No w M w M := Cx.start hO (fun _ e => e.elim)
  refine walk (N := 3) Tryd.func16 rfl Tryd.ntmps16 rfl ?_
  refine cw_seq ?_
  refine cw_region ?_
  refine lw_op rfl rfl rfl (ow_alloc rfl (Tryd.zeroValue24 _) hC fun g1 w1 hg1 hg2 ho1 hb1 hl1 hC1 => ?_)
  have hm1 : (Add g1 M) g1 := .inl rfl
  refine lw_nil ?_
  refine ew_then ?_
  refine cw_seq ?_
  refine cw_region ?_
  replace h := bind_some h
  obtain ⟨x1, hx1, h⟩ := h
  refine lw_op rfl rfl rfl (ow_call rfl rfl Tryd.call66 (w_impl_allSides (hG.mono hl1) hC1.old hx1) fun v1 w2 hv1 => ?_)
  obtain ⟨hv1, hb2⟩ := hv1
  have hl2 := Le.no (Add g1 M) hb2
  have hC2 := hC1.no hb2
  have ho2 := ho1.no hb2
  replace h := bind_some h
  obtain ⟨x2, hx2, h⟩ := h
  refine lw_op rfl rfl rfl (ow_call rfl rfl Tryd.call67 (w_impl_sides_box (hG.mono (hl1.trans hl2)) hC2.old hv1 hx2) fun v2 w3 hv2 => ?_)
  obtain ⟨hv2, hb3⟩ := hv2
  have hl3 := Le.no (Add g1 M) hb3
  have hC3 := hC2.no hb3
  have ho3 := ho2.no hb3
  obtain ⟨A1, c1, rfl, hw1⟩ := open_Box hv2
  refine lw_op0 rfl rfl (ow_store (X := No) (us := [(.slice A1 x2.Sides.length c1)]) (cs' := #[(.slice A1 x2.Sides.length c1)]) rfl rfl rfl rfl ho3 (Tryd.sizeOf24 _) rfl rfl rfl rfl hm1 (.inl hg2) rfl hC3 fun w4 ho4 hb4 hl4 hC4 => ?_)
  refine lw_nil ?_
  refine ew_then ?_
  refine cw_ret ?_
  have hw2 : VRep RBox w4 (Add g1 M) ({ Sides := x2.Sides } : Box) (.agg #[(.slice A1 x2.Sides.length c1)]) := shut_Box (VRep.mono hl4 hw1)
  obtain rfl := Option.some.inj h
  exact ew_ret (res1 rfl (.cell rfl (own_loadVarA ho4 (Tryd.isAgg24 _) (Tryd.sizeOf24 _) rfl))) ⟨_, rfl, (hw2.mono hC4.back), hC4.bx⟩

theorem w_impl_topValid {w : World} {M : Nat → Prop} (_hG : ARep (RArr 4 RShape) w M shapes ⟨0, 0, none⟩) (hO : ∀ b, M b → b < w.heap.size) {a_top : Int} {r : Bool} (h : F.impl_topValid a_top = some r) :
    Calls Tryd.prog 113 [(.int .i64 a_top)].toArray w fun e w' => ∃ v, e = .returned v ∧ VRep RBool w' M r v ∧ BX No w w' := by
  have hC : Cx No w M w M := Cx.start hO (fun _ e => e.elim)
  clear _hG
  refine walk (N := 9) Tryd.func113 rfl Tryd.ntmps113 rfl ?_
  refine cw_seq ?_
  refine cw_region ?_
  refine lw_op rfl rfl rfl (ow_assign rfl rfl ?_)
  refine lw_nil ?_
  refine ew_then ?_
  refine cw_seq ?_
  refine cw_region ?_
  refine lw_op rfl rfl rfl (ow_move rfl rfl ?_)
  refine lw_op rfl rfl rfl (ow_geq rfl rfl rfl fun bb1 hbb1 => ?_)
  refine lw_op rfl rfl rfl (ow_move rfl rfl ?_)
  replace h := cond_some h
  rcases h with ⟨hc1, h⟩ | ⟨hc1, h⟩
  · obtain rfl := hbb1.trans hc1
    refine lw_on rfl rfl rfl rfl rfl rfl (ow_move rfl rfl ?_)
    refine lw_on rfl rfl rfl rfl rfl rfl (ow_leq rfl rfl rfl fun bb2 hbb2 => ?_)
    refine lw_op rfl rfl rfl (ow_pickT rfl rfl rfl ?_)
    refine lw_op rfl rfl rfl (ow_assign rfl rfl ?_)
    refine lw_nil ?_
    refine ew_then ?_
    refine cw_ret ?_
    obtain rfl := Option.some.inj h
    exact ew_ret (res1 rfl (.tmp rfl)) ⟨_, rfl, ((vbool_of hbb2)), hC.bx⟩
  · obtain rfl := hbb1.trans hc1
    refine lw_off rfl rfl rfl rfl rfl rfl ?_
    refine lw_off rfl rfl rfl rfl rfl rfl ?_
    refine lw_op rfl rfl rfl (ow_pickF rfl rfl rfl ?_)
    refine lw_op rfl rfl rfl (ow_assign rfl rfl ?_)
    refine lw_nil ?_
    refine ew_then ?_
    refine cw_ret ?_
    obtain rfl := Option.some.inj h
    exact ew_ret (res1 rfl (.tmp rfl)) ⟨_, rfl, ((vbool _)), hC.bx⟩

theorem w_impl_SpansValid {w : World} {M : Nat → Prop} (hG : ARep (RArr 4 RShape) w M shapes ⟨0, 0, none⟩) (hO : ∀ b, M b → b < w.heap.size) {v0p : Value} {a_list : List Span} (h0 : VRep (RSlice RSpan) w M a_list v0p) {a_top : Int} {r : Bool} (h : F.impl_SpansValid a_list a_top = some r) :
    Calls Tryd.prog 74 [v0p, (.int .i64 a_top)].toArray w fun e w' => ∃ v, e = .returned v ∧ VRep RBool w' M r v ∧ BX No w w' := by
  have hC : Cx No w M w M := Cx.start hO (fun _ e => e.elim)
  refine walk (N := 43) Tryd.func74 rfl Tryd.ntmps74 rfl ?_
  refine cw_seq ?_
  refine cw_region ?_
  refine lw_op rfl rfl rfl (ow_assign rfl rfl ?_)
  refine lw_nil ?_
  refine ew_then ?_
  refine cw_seq ?_
  refine cw_seq ?_
  refine cw_region ?_
  refine lw_op rfl rfl rfl (ow_move rfl rfl ?_)
  replace h := bind_some h
  obtain ⟨x1, hx1, h⟩ := h
  refine lw_op rfl rfl rfl (ow_call rfl rfl Tryd.call113 (w_impl_topValid hG hC.old hx1) fun v1 w1 hv1 => ?_)
  obtain ⟨hv1, hb1⟩ := hv1
  have hl1 := Le.no M hb1
  have hC1 := hC.no hb1
  obtain rfl := vbool_eq hv1
  refine lw_op rfl rfl rfl (ow_not rfl rfl ?_)
  refine lw_op rfl rfl rfl (ow_move rfl rfl ?_)
  replace h := cond_some h
  rcases h with ⟨hc1, h⟩ | ⟨hc1, h⟩
  · subst hc1
    refine lw_on rfl rfl rfl rfl rfl rfl (ow_move rfl rfl ?_)
    refine lw_on rfl rfl rfl rfl rfl rfl (ow_len rfl rfl (VRep.mono hl1 h0) Tryd.underlying93 rfl ?_)
    refine lw_on rfl rfl rfl rfl rfl rfl (ow_gtr rfl rfl rfl fun bb1 hbb1 => ?_)
    refine lw_op rfl rfl rfl (ow_pickF rfl rfl rfl ?_)
    refine lw_nil ?_
    refine ew_then ?_
    replace h := cond_some h
    rcases h with ⟨hc2, h⟩ | ⟨hc2, h⟩
    · obtain rfl := hbb1.trans hc2
      refine cw_true rfl ?_
      refine cw_seq ?_
      refine cw_region ?_
      refine lw_op rfl rfl rfl (ow_assign rfl rfl ?_)
      refine lw_nil ?_
      refine ew_then ?_
      refine cw_ret ?_
      refine ew_thenR ?_
      obtain rfl := Option.some.inj h
      exact ew_ret (res1 rfl (.tmp rfl)) ⟨_, rfl, ((vbool _)), hC1.bx⟩
    · obtain rfl := hbb1.trans hc2
      refine cw_false rfl ?_
      refine cw_skip ?_
      refine ew_then ?_
      refine cw_seq ?_
      refine cw_region ?_
      refine lw_op rfl rfl rfl (ow_assign rfl rfl ?_)
      refine lw_nil ?_
      refine ew_then ?_
      refine cw_seq ?_
      refine cw_seq ?_
      refine cw_region ?_
      refine lw_op rfl rfl rfl (ow_move rfl rfl ?_)
      refine lw_op rfl rfl rfl (ow_len rfl rfl (VRep.mono hl1 h0) Tryd.underlying93 rfl ?_)
      refine lw_op rfl rfl rfl (ow_move rfl rfl ?_)
      refine lw_nil ?_
      refine ew_then ?_
      replace h := bind_some h
      obtain ⟨lr1, hlr1, h⟩ := h
      refine cw_for hlr1 (fun s a w' => ∃ (M' : Nat → Prop), Fits 43 [(1, (.int .i64 a_top)), (5, (.int .i64 s.1)), (16, v0p), (17, (.int .i64 (a_list.length : Int))), (18, (.int .i64 s.2))] a ∧ Le w1 M w' M' ∧ Cx No w M w' M') ?_ ?_ ?_
      · intro a ha
        exact ⟨M, ha.sub ⟨rfl, rfl, rfl, rfl, rfl, trivial⟩, Le.refl _ _, hC1⟩
      · rintro ⟨k1, k2⟩ a w2 sr1 ⟨M1, hF1, hl2, hC2⟩ hb2 hR1
        refine cw_at (E := [(1, (.int .i64 a_top)), (5, (.int .i64 k1)), (16, v0p), (17, (.int .i64 (a_list.length : Int))), (18, (.int .i64 k2))]) hF1 ?_
        refine cw_seq ?_
        refine cw_region ?_
        refine lw_op rfl rfl rfl (ow_lss rfl rfl rfl fun bb2 hbb2 => ?_)
        refine lw_nil ?_
        refine ew_then ?_
        refine cw_seq ?_
        replace hb2 := cond_some hb2
        rcases hb2 with ⟨hc3, hb2⟩ | ⟨hc3, hb2⟩
        · obtain rfl := hbb2.trans hc3
          refine cw_true rfl ?_
          refine cw_skip ?_
          refine ew_then ?_
          refine cw_seq ?_
          refine cw_block ?_
          refine cw_seq ?_
          refine cw_region ?_
          replace hb2 := bind_some hb2
          obtain ⟨x2, hx2, hb2⟩ := hb2
          refine lw_op rfl rfl rfl (ow_indexSlice (R := RSpan) rfl rfl rfl (VRep.mono (hl1.trans hl2) h0) Tryd.underlying93 (Tryd.sizeOf92 _) hx2 fun p1 hp1 => ?_)
          refine lw_op rfl rfl rfl (ow_load (R := RSpan) rfl rfl hp1 (Tryd.sizeOf92 _) (Tryd.isAgg92 _) fun v4 hv4 => ?_)
          refine lw_allocStore (R := RSpan) rfl rfl rfl rfl rfl rfl rfl Tryd.zeroValue92 Tryd.sizeOf92 rfl rfl rfl (by simp) hv4 hC2 fun p2 w3 hp2 hb3 hl3 hC3 => ?_
          refine lw_nil ?_
          refine ew_then ?_
          refine cw_seq ?_
          refine cw_seq ?_
          refine cw_region ?_
          refine lw_op rfl rfl rfl (ow_fieldAddr rfl rfl Tryd.underlying92 rfl (Tryd.sizeOf3 _) ?_)
          refine lw_op rfl rfl rfl (ow_load (R := RInt) rfl rfl (hp2.fld fld_Span_Lo) (Tryd.sizeOf3 _) (Tryd.isAgg3 _) fun v5 hv5 => ?_)
          obtain rfl := vint_eq hv5
          refine lw_op rfl rfl rfl (ow_move rfl rfl ?_)
          refine lw_op rfl rfl rfl (ow_add rfl rfl rfl ?_)
          refine lw_op rfl rfl rfl (ow_leq rfl rfl rfl fun bb3 hbb3 => ?_)
          refine lw_op rfl rfl rfl (ow_move rfl rfl ?_)
          replace hb2 := cond_some hb2
          rcases hb2 with ⟨hc4, hb2⟩ | ⟨hc4, hb2⟩
          · obtain rfl := hbb3.trans hc4
            refine lw_off rfl rfl rfl rfl rfl rfl ?_
            refine lw_off rfl rfl rfl rfl rfl rfl ?_
            refine lw_off rfl rfl rfl rfl rfl rfl ?_
            refine lw_off rfl rfl rfl rfl rfl rfl ?_
            refine lw_off rfl rfl rfl rfl rfl rfl ?_
            refine lw_op rfl rfl rfl (ow_pickT rfl rfl rfl ?_)
            refine lw_op rfl rfl rfl (ow_move rfl rfl ?_)
            refine lw_off rfl rfl rfl rfl rfl rfl ?_
            refine lw_off rfl rfl rfl rfl rfl rfl ?_
            refine lw_off rfl rfl rfl rfl rfl rfl ?_
            refine lw_off rfl rfl rfl rfl rfl rfl ?_
            refine lw_op rfl rfl rfl (ow_pickT rfl rfl rfl ?_)
            refine lw_nil ?_
            refine ew_then ?_
            refine cw_true rfl ?_
            refine cw_seq ?_
            refine cw_region ?_
            refine lw_op rfl rfl rfl (ow_assign rfl rfl ?_)
            refine lw_nil ?_
            refine ew_then ?_
            refine cw_ret ?_
            refine ew_thenR ?_
            refine ew_blockR ?_
            refine ew_thenR ?_
            refine ew_thenR ?_
            refine ew_blockR ?_
            refine ew_brkR ?_
            refine ew_thenR ?_
            have e1 := hR1 _ (Option.some.inj hb2).symm
            subst e1
            obtain rfl := Option.some.inj h
            exact ew_ret (res1 rfl (.tmp rfl)) ⟨_, rfl, ((vbool _)), hC3.bx⟩
          · obtain rfl := hbb3.trans hc4
            refine lw_on rfl rfl rfl rfl rfl rfl (ow_fieldAddr rfl rfl Tryd.underlying92 rfl (Tryd.sizeOf3 _) ?_)
            refine lw_on rfl rfl rfl rfl rfl rfl (ow_load (R := RInt) rfl rfl (hp2.fld fld_Span_Lo) (Tryd.sizeOf3 _) (Tryd.isAgg3 _) fun v6 hv6 => ?_)
            obtain rfl := vint_eq hv6
            refine lw_on rfl rfl rfl rfl rfl rfl (ow_fieldAddr rfl rfl Tryd.underlying92 rfl (Tryd.sizeOf3 _) ?_)
            refine lw_on rfl rfl rfl rfl rfl rfl (ow_load (R := RInt) rfl rfl (hp2.fld fld_Span_Hi) (Tryd.sizeOf3 _) (Tryd.isAgg3 _) fun v7 hv7 => ?_)
            obtain rfl := vint_eq hv7
            refine lw_on rfl rfl rfl rfl rfl rfl (ow_gtr rfl rfl rfl fun bb4 hbb4 => ?_)
            refine lw_op rfl rfl rfl (ow_pickF rfl rfl rfl ?_)
            refine lw_op rfl rfl rfl (ow_move rfl rfl ?_)
            replace hb2 := cond_some hb2
            rcases hb2 with ⟨hc5, hb2⟩ | ⟨hc5, hb2⟩
            · obtain rfl := hbb4.trans hc5
              refine lw_off rfl rfl rfl rfl rfl rfl ?_
              refine lw_off rfl rfl rfl rfl rfl rfl ?_
              refine lw_off rfl rfl rfl rfl rfl rfl ?_
              refine lw_off rfl rfl rfl rfl rfl rfl ?_
              refine lw_op rfl rfl rfl (ow_pickT rfl rfl rfl ?_)
              refine lw_nil ?_
              refine ew_then ?_
              refine cw_true rfl ?_
              refine cw_seq ?_
              refine cw_region ?_
              refine lw_op rfl rfl rfl (ow_assign rfl rfl ?_)
              refine lw_nil ?_
              refine ew_then ?_
              refine cw_ret ?_
              refine ew_thenR ?_
              refine ew_blockR ?_
              refine ew_thenR ?_
              refine ew_thenR ?_
              refine ew_blockR ?_
              refine ew_brkR ?_
              refine ew_thenR ?_
              have e2 := hR1 _ (Option.some.inj hb2).symm
              subst e2
              obtain rfl := Option.some.inj h
              exact ew_ret (res1 rfl (.tmp rfl)) ⟨_, rfl, ((vbool _)), hC3.bx⟩
            · obtain rfl := hbb4.trans hc5
              refine lw_on rfl rfl rfl rfl rfl rfl (ow_fieldAddr rfl rfl Tryd.underlying92 rfl (Tryd.sizeOf3 _) ?_)
              refine lw_on rfl rfl rfl rfl rfl rfl (ow_load (R := RInt) rfl rfl (hp2.fld fld_Span_Hi) (Tryd.sizeOf3 _) (Tryd.isAgg3 _) fun v8 hv8 => ?_)
              obtain rfl := vint_eq hv8
              refine lw_on rfl rfl rfl rfl rfl rfl (ow_move rfl rfl ?_)
              refine lw_on rfl rfl rfl rfl rfl rfl (ow_gtr rfl rfl rfl fun bb5 hbb5 => ?_)
              refine lw_op rfl rfl rfl (ow_pickF rfl rfl rfl ?_)
              refine lw_nil ?_
              refine ew_then ?_
              replace hb2 := cond_some hb2
              rcases hb2 with ⟨hc6, hb2⟩ | ⟨hc6, hb2⟩
              · obtain rfl := hbb5.trans hc6
                refine cw_true rfl ?_
                refine cw_seq ?_
                refine cw_region ?_
                refine lw_op rfl rfl rfl (ow_assign rfl rfl ?_)
                refine lw_nil ?_
                refine ew_then ?_
                refine cw_ret ?_
                refine ew_thenR ?_
                refine ew_blockR ?_
                refine ew_thenR ?_
                refine ew_thenR ?_
                refine ew_blockR ?_
                refine ew_brkR ?_
                refine ew_thenR ?_
                have e3 := hR1 _ (Option.some.inj hb2).symm
                subst e3
                obtain rfl := Option.some.inj h
                exact ew_ret (res1 rfl (.tmp rfl)) ⟨_, rfl, ((vbool _)), hC3.bx⟩
              · obtain rfl := hbb5.trans hc6
                refine cw_false rfl ?_
                refine cw_skip ?_
                refine ew_then ?_
                refine cw_region ?_
                refine lw_op rfl rfl rfl (ow_fieldAddr rfl rfl Tryd.underlying92 rfl (Tryd.sizeOf3 _) ?_)
                refine lw_op rfl rfl rfl (ow_load (R := RInt) rfl rfl (hp2.fld fld_Span_Hi) (Tryd.sizeOf3 _) (Tryd.isAgg3 _) fun v9 hv9 => ?_)
                obtain rfl := vint_eq hv9
                refine lw_op rfl rfl rfl (ow_assign rfl rfl ?_)
                refine lw_nil ?_
                refine ew_blockN ?_
                refine ew_then ?_
                refine cw_region ?_
                refine lw_op rfl rfl rfl (ow_add rfl rfl rfl ?_)
                refine lw_op rfl rfl rfl (ow_move rfl rfl ?_)
                refine lw_nil ?_
                refine ew_nxt (x2.Hi, (W (k2 + 1))) hb2 fun a ha => ⟨M1, ?_, (hl2.trans hl3), hC3⟩
                exact ha.sub ⟨rfl, rfl, rfl, rfl, rfl, trivial⟩
        · obtain rfl := hbb2.trans hc3
          refine cw_false rfl ?_
          refine cw_exit ?_
          refine ew_thenX ?_
          refine ew_thenX ?_
          refine ew_blockX ?_
          refine ew_brk (k1, k2) hb2 fun a ha => ⟨M1, ?_, hl2, hC2⟩
          exact ha.sub ⟨rfl, rfl, rfl, rfl, rfl, trivial⟩
      · rintro ⟨k3, k4⟩ a w4 hlr2 ⟨M2, hF2, hl4, hC4⟩
        subst hlr2
        refine ew_at (E := [(1, (.int .i64 a_top)), (5, (.int .i64 k3)), (16, v0p), (17, (.int .i64 (a_list.length : Int))), (18, (.int .i64 k4))]) hF2 ?_
        refine ew_then ?_
        refine cw_seq ?_
        refine cw_region ?_
        refine lw_op rfl rfl rfl (ow_assign rfl rfl ?_)
        refine lw_nil ?_
        refine ew_then ?_
        refine cw_ret ?_
        obtain rfl := Option.some.inj h
        exact ew_ret (res1 rfl (.tmp rfl)) ⟨_, rfl, ((vbool _)), hC4.bx⟩
  · subst hc1
    refine lw_off rfl rfl rfl rfl rfl rfl ?_
    refine lw_off rfl rfl rfl rfl rfl rfl ?_
    refine lw_off rfl rfl rfl rfl rfl rfl ?_
    refine lw_op rfl rfl rfl (ow_pickT rfl rfl rfl ?_)
    refine lw_nil ?_
    refine ew_then ?_
    refine cw_true rfl ?_
    refine cw_seq ?_
    refine cw_region ?_
    refine lw_op rfl rfl rfl (ow_assign rfl rfl ?_)
    refine lw_nil ?_
    refine ew_then ?_
    refine cw_ret ?_
    refine ew_thenR ?_
    obtain rfl := Option.some.inj h
    exact ew_ret (res1 rfl (.tmp rfl)) ⟨_, rfl, ((vbool _)), hC1.bx⟩

theorem w_impl_BoxValid {w : World} {M : Nat → Prop} (hG : ARep (RArr 4 RShape) w M shapes ⟨0, 0, none⟩) (hO : ∀ b, M b → b < w.heap.size) {v0p : Value} {a_b : Box} (h0 : VRep RBox w M a_b v0p) {r : Bool} (h : F.impl_BoxValid a_b = some r) :
    Calls Tryd.prog 23 [v0p].toArray w fun e w' => ∃ v, e = .returned v ∧ VRep RBool w' M r v ∧ BX No w w' := by
  have hC : Cx No w M w M := Cx.start hO (fun _ e => e.elim)
  refine walk (N := 23) Tryd.func23 rfl Tryd.ntmps23 rfl ?_
  refine cw_seq ?_
  refine cw_region ?_
  refine lw_op rfl rfl rfl (ow_box (R := RBox) rfl rfl h0 hC fun p1 w1 hp1 hb1 hl1 hC1 => ?_)
  refine lw_op rfl rfl rfl (ow_assign rfl rfl ?_)
  refine lw_nil ?_
  refine ew_then ?_
  refine cw_seq ?_
  refine cw_seq ?_
  refine cw_region ?_
  refine lw_op rfl rfl rfl (ow_fieldAddr rfl rfl Tryd.underlying24 rfl (Tryd.sizeOf22 _) ?_)
  refine lw_op rfl rfl rfl (ow_load (R := (RSlice (RSlice RSpan))) rfl rfl (hp1.fld fld_Box_Sides) (Tryd.sizeOf22 _) (Tryd.isAgg22 _) fun v1 hv1 => ?_)
  refine lw_op rfl rfl rfl (ow_len rfl rfl hv1 Tryd.underlying22 rfl ?_)
  refine lw_op rfl rfl rfl (ow_neqI rfl rfl rfl fun bb1 hbb1 => ?_)
  refine lw_nil ?_
  refine ew_then ?_
  replace h := cond_some h
  rcases h with ⟨hc1, h⟩ | ⟨hc1, h⟩
  · obtain rfl := hbb1.trans hc1
    refine cw_true rfl ?_
    refine cw_seq ?_
    refine cw_region ?_
    refine lw_op rfl rfl rfl (ow_assign rfl rfl ?_)
    refine lw_nil ?_
    refine ew_then ?_
    refine cw_ret ?_
    refine ew_thenR ?_
    obtain rfl := Option.some.inj h
    exact ew_ret (res1 rfl (.tmp rfl)) ⟨_, rfl, ((vbool _)), hC1.bx⟩
  · obtain rfl := hbb1.trans hc1
    refine cw_false rfl ?_
    refine cw_skip ?_
    refine ew_then ?_
    refine cw_seq ?_
    refine cw_seq ?_
    refine cw_region ?_
    refine lw_op rfl rfl rfl (ow_fieldAddr rfl rfl Tryd.underlying24 rfl (Tryd.sizeOf22 _) ?_)
    refine lw_op rfl rfl rfl (ow_load (R := (RSlice (RSlice RSpan))) rfl rfl (hp1.fld fld_Box_Sides) (Tryd.sizeOf22 _) (Tryd.isAgg22 _) fun v2 hv2 => ?_)
    refine lw_op rfl rfl rfl (ow_len rfl rfl hv2 Tryd.underlying22 rfl ?_)
    refine lw_op rfl rfl rfl (ow_move rfl rfl ?_)
    refine lw_nil ?_
    refine ew_then ?_
    replace h := bind_some h
    obtain ⟨lr1, hlr1, h⟩ := h
    refine cw_for hlr1 (fun s a w' => ∃ (M' : Nat → Prop), Fits 23 [(10, v2), (11, (.int .i64 (a_b.Sides.length : Int))), (12, (.int .i64 s))] a ∧ Le w1 M w' M' ∧ Cx No w M w' M') ?_ ?_ ?_
    · intro a ha
      exact ⟨M, ha.sub ⟨rfl, rfl, rfl, trivial⟩, Le.refl _ _, hC1⟩
    · rintro k1 a w2 sr1 ⟨M1, hF1, hl2, hC2⟩ hb2 hR1
      refine cw_at (E := [(10, v2), (11, (.int .i64 (a_b.Sides.length : Int))), (12, (.int .i64 k1))]) hF1 ?_
      refine cw_seq ?_
      refine cw_region ?_
      refine lw_op rfl rfl rfl (ow_lss rfl rfl rfl fun bb2 hbb2 => ?_)
      refine lw_nil ?_
      refine ew_then ?_
      refine cw_seq ?_
      replace hb2 := cond_some hb2
      rcases hb2 with ⟨hc2, hb2⟩ | ⟨hc2, hb2⟩
      · obtain rfl := hbb2.trans hc2
        refine cw_true rfl ?_
        refine cw_skip ?_
        refine ew_then ?_
        refine cw_seq ?_
        refine cw_block ?_
        refine cw_seq ?_
        refine cw_region ?_
        refine lw_op rfl rfl rfl (ow_move rfl rfl ?_)
        replace hb2 := bind_some hb2
        obtain ⟨x1, hx1, hb2⟩ := hb2
        refine lw_op rfl rfl rfl (ow_indexSlice (R := (RSlice RSpan)) rfl rfl rfl (VRep.mono hl2 hv2) Tryd.underlying22 (Tryd.sizeOf93 _) hx1 fun p2 hp2 => ?_)
        refine lw_op rfl rfl rfl (ow_load (R := (RSlice RSpan)) rfl rfl hp2 (Tryd.sizeOf93 _) (Tryd.isAgg93 _) fun v4 hv4 => ?_)
        refine lw_op rfl rfl rfl (ow_assign rfl rfl ?_)
        refine lw_op rfl rfl rfl (ow_assign rfl rfl ?_)
        refine lw_nil ?_
        refine ew_then ?_
        refine cw_seq ?_
        refine cw_region ?_
        refine lw_op rfl rfl rfl (ow_move rfl rfl ?_)
        refine lw_op rfl rfl rfl (ow_move rfl rfl ?_)
        replace hb2 := bind_some hb2
        obtain ⟨x2, hx2, hb2⟩ := hb2
        refine lw_op rfl rfl rfl (ow_call rfl rfl Tryd.call75 (w_impl_FieldTop (hG.mono (hl1.trans hl2)) hC2.old hx2) fun v5 w3 hv5 => ?_)
        obtain ⟨hv5, hb3⟩ := hv5
        have hl3 := Le.no M1 hb3
        have hC3 := hC2.no hb3
        obtain rfl := vint_eq hv5
        replace hb2 := bind_some hb2
        obtain ⟨x3, hx3, hb2⟩ := hb2
        refine lw_op rfl rfl rfl (ow_call rfl rfl Tryd.call74 (w_impl_SpansValid (hG.mono ((hl1.trans hl2).trans hl3)) hC3.old (VRep.mono hl3 hv4) hx3) fun v6 w4 hv6 => ?_)
        obtain ⟨hv6, hb4⟩ := hv6
        have hl4 := Le.no M1 hb4
        have hC4 := hC3.no hb4
        obtain rfl := vbool_eq hv6
        refine lw_op rfl rfl rfl (ow_not rfl rfl ?_)
        refine lw_nil ?_
        refine ew_then ?_
        replace hb2 := cond_some hb2
        rcases hb2 with ⟨hc3, hb2⟩ | ⟨hc3, hb2⟩
        · subst hc3
          refine cw_false rfl ?_
          refine cw_skip ?_
          refine ew_blockN ?_
          refine ew_then ?_
          refine cw_region ?_
          refine lw_op rfl rfl rfl (ow_add rfl rfl rfl ?_)
          refine lw_op rfl rfl rfl (ow_move rfl rfl ?_)
          refine lw_nil ?_
          refine ew_nxt (W (k1 + 1)) hb2 fun a ha => ⟨M1, ?_, ((hl2.trans hl3).trans hl4), hC4⟩
          exact ha.sub ⟨rfl, rfl, rfl, trivial⟩
        · subst hc3
          refine cw_true rfl ?_
          refine cw_seq ?_
          refine cw_region ?_
          refine lw_op rfl rfl rfl (ow_assign rfl rfl ?_)
          refine lw_nil ?_
          refine ew_then ?_
          refine cw_ret ?_
          refine ew_blockR ?_
          refine ew_thenR ?_
          refine ew_thenR ?_
          refine ew_blockR ?_
          refine ew_brkR ?_
          refine ew_thenR ?_
          have e1 := hR1 _ (Option.some.inj hb2).symm
          subst e1
          obtain rfl := Option.some.inj h
          exact ew_ret (res1 rfl (.tmp rfl)) ⟨_, rfl, ((vbool _)), hC4.bx⟩
      · obtain rfl := hbb2.trans hc2
        refine cw_false rfl ?_
        refine cw_exit ?_
        refine ew_thenX ?_
        refine ew_thenX ?_
        refine ew_blockX ?_
        refine ew_brk k1 hb2 fun a ha => ⟨M1, ?_, hl2, hC2⟩
        exact ha.sub ⟨rfl, rfl, rfl, trivial⟩
    · rintro k2 a w5 hlr2 ⟨M2, hF2, hl5, hC5⟩
      subst hlr2
      refine ew_at (E := [(10, v2), (11, (.int .i64 (a_b.Sides.length : Int))), (12, (.int .i64 k2))]) hF2 ?_
      refine ew_then ?_
      refine cw_seq ?_
      refine cw_region ?_
      refine lw_op rfl rfl rfl (ow_assign rfl rfl ?_)
      refine lw_nil ?_
      refine ew_then ?_
      refine cw_ret ?_
      obtain rfl := Option.some.inj h
      exact ew_ret (res1 rfl (.tmp rfl)) ⟨_, rfl, ((vbool _)), hC5.bx⟩

theorem w_impl_sidesOf {w : World} {M : Nat → Prop} (_hG : ARep (RArr 4 RShape) w M shapes ⟨0, 0, none⟩) (hO : ∀ b, M b → b < w.heap.size) {v0p : Value} {a_b : Box} (h0 : VRep RBox w M a_b v0p) {r : (List (List Span))} (h : F.impl_sidesOf a_b = some r) :
    Calls Tryd.prog 77 [v0p].toArray w fun e w' => ∃ v, e = .returned v ∧ VRep (RArr 4 (RSlice RSpan)) w' M r v ∧ BX No w w' := by
  have hC : Cx No w M w M := Cx.start hO (fun _ e => e.elim)
  clear _hG
  refine walk (N := 7) Tryd.func77 rfl Tryd.ntmps77 rfl ?_
  refine cw_seq ?_
  refine cw_region ?_
  refine lw_op rfl rfl rfl (ow_box (R := RBox) rfl rfl h0 hC fun p1 w1 hp1 hb1 hl1 hC1 => ?_)
  refine lw_op rfl rfl rfl (ow_alloc rfl (Tryd.zeroValue95 _) hC1 fun g1 w2 hg1 hg2 ho1 hb2 hl2 hC2 => ?_)
  have hm1 : (Add g1 M) g1 := .inl rfl
  have ho2 : OwnA (RArr 4 (RSlice RSpan)) w2 (Add g1 M) g1 95 [([] : List Span), ([] : List Span), ([] : List Span), ([] : List Span)] := OwnA.of ho1 ⟨rfl, ⟨_, _, rfl, (vslice_nil (R := RSpan) (w := w2) (M := (Add g1 M))).cells, _, _, rfl, (vslice_nil (R := RSpan) (w := w2) (M := (Add g1 M))).cells, _, _, rfl, (vslice_nil (R := RSpan) (w := w2) (M := (Add g1 M))).cells, _, _, rfl, (vslice_nil (R := RSpan) (w := w2) (M := (Add g1 M))).cells, rfl⟩⟩
  refine lw_nil ?_
  refine ew_then ?_
  refine cw_seq ?_
  refine cw_region ?_
  refine lw_op rfl rfl rfl (ow_fieldAddr rfl rfl Tryd.underlying24 rfl (Tryd.sizeOf22 _) ?_)
  refine lw_op rfl rfl rfl (ow_load (R := (RSlice (RSlice RSpan))) rfl rfl (ARep.mono hl2 (hp1.fld fld_Box_Sides)) (Tryd.sizeOf22 _) (Tryd.isAgg22 _) fun v1 hv1 => ?_)
  replace h := bind_some h
  obtain ⟨y1, hy1, h⟩ := h
  refine lw_op rfl rfl rfl (ow_s2ap rfl rfl hv1 Tryd.underlying95 (arrF_some hy1).2 (by decide) fun p2 hp2 => ?_)
  rw [← (arrF_some hy1).1] at hp2
  refine lw_op rfl rfl rfl (ow_load (R := (RArr 4 (RSlice RSpan))) rfl rfl hp2 (Tryd.sizeOf95 _) (Tryd.isAgg95 _) fun v2 hv2 => ?_)
  obtain ⟨cs1, h1, h2⟩ := ho2.own
  refine lw_op0 rfl rfl (ow_storeA (X := No) (R := (RArr 4 (RSlice RSpan))) rfl rfl rfl rfl h1 h2 (Tryd.sizeOf95 _) hv2 hm1 (.inl hg2) hC2 fun w3 ho3 hb3 hl3 hC3 => ?_)
  refine lw_nil ?_
  refine ew_then ?_
  refine cw_ret ?_
  obtain rfl := Option.some.inj h
  obtain ⟨v3, hq1, hw1⟩ := resA ho3 (Tryd.sizeOf95 _) (Tryd.isAgg95 _) rfl
  exact ew_ret (res1 rfl (.cell rfl hq1)) ⟨_, rfl, (hw1.mono hC3.back), hC3.bx⟩

theorem w_impl_sides_empty {w : World} {M : Nat → Prop} (_hG : ARep (RArr 4 RShape) w M shapes ⟨0, 0, none⟩) (hO : ∀ b, M b → b < w.heap.size) {v0p : Value} {a_s : List (List Span)} (h0 : VRep (RArr 4 (RSlice RSpan)) w M a_s v0p) {r : Bool} (h : F.impl_sides_empty a_s = some r) :
    Calls Tryd.prog 78 [v0p].toArray w fun e w' => ∃ v, e = .returned v ∧ VRep RBool w' M r v ∧ BX No w w' := by
  have hC : Cx No w M w M := Cx.start hO (fun _ e => e.elim)
  clear _hG
  refine walk (N := 13) Tryd.func78 rfl Tryd.ntmps78 rfl ?_
  refine cw_seq ?_
  refine cw_region ?_
  refine lw_op rfl rfl rfl (ow_box (R := (RArr 4 (RSlice RSpan))) rfl rfl h0 hC fun p1 w1 hp1 hb1 hl1 hC1 => ?_)
  refine lw_op rfl rfl rfl (ow_assign rfl rfl ?_)
  refine lw_nil ?_
  refine ew_then ?_
  refine cw_seq ?_
  refine cw_seq ?_
  refine cw_region ?_
  refine lw_op rfl rfl rfl (ow_load (R := (RArr 4 (RSlice RSpan))) rfl rfl hp1 (Tryd.sizeOf95 _) (Tryd.isAgg95 _) fun v1 hv1 => ?_)
  refine lw_op rfl rfl rfl (ow_move rfl rfl ?_)
  refine lw_nil ?_
  refine ew_then ?_
  replace h := bind_some h
  obtain ⟨lr1, hlr1, h⟩ := h
  refine cw_for hlr1 (fun s a w' => ∃ (M' : Nat → Prop), Fits 13 [(5, v1), (6, (.int .i64 s))] a ∧ Le w1 M w' M' ∧ Cx No w M w' M') ?_ ?_ ?_
  · intro a ha
    exact ⟨M, ha.sub ⟨rfl, rfl, trivial⟩, Le.refl _ _, hC1⟩
  · rintro k1 a w2 sr1 ⟨M1, hF1, hl2, hC2⟩ hb2 hR1
    refine cw_at (E := [(5, v1), (6, (.int .i64 k1))]) hF1 ?_
    refine cw_seq ?_
    refine cw_region ?_
    refine lw_op rfl rfl rfl (ow_lss rfl rfl rfl fun bb1 hbb1 => ?_)
    refine lw_nil ?_
    refine ew_then ?_
    refine cw_seq ?_
    replace hb2 := cond_some hb2
    rcases hb2 with ⟨hc1, hb2⟩ | ⟨hc1, hb2⟩
    · obtain rfl := hbb1.trans hc1
      refine cw_true rfl ?_
      refine cw_skip ?_
      refine ew_then ?_
      refine cw_seq ?_
      refine cw_block ?_
      refine cw_seq ?_
      refine cw_region ?_
      replace hb2 := bind_some hb2
      obtain ⟨x1, hx1, hb2⟩ := hb2
      refine lw_op rfl rfl rfl (ow_index (R := (RSlice RSpan)) rfl rfl rfl (VRep.mono hl2 hv1) Tryd.underlying95 (Tryd.sizeOf93 _) (Tryd.isAgg93 _) hx1 fun v3 hv3 => ?_)
      refine lw_op rfl rfl rfl (ow_assign rfl rfl ?_)
      refine lw_nil ?_
      refine ew_then ?_
      refine cw_seq ?_
      refine cw_region ?_
      refine lw_op rfl rfl rfl (ow_move rfl rfl ?_)
      refine lw_op rfl rfl rfl (ow_len rfl rfl hv3 Tryd.underlying93 rfl ?_)
      refine lw_op rfl rfl rfl (ow_eqlI rfl rfl rfl fun bb2 hbb2 => ?_)
      refine lw_nil ?_
      refine ew_then ?_
      replace hb2 := cond_some hb2
      rcases hb2 with ⟨hc2, hb2⟩ | ⟨hc2, hb2⟩
      · obtain rfl := hbb2.trans hc2
        refine cw_true rfl ?_
        refine cw_seq ?_
        refine cw_region ?_
        refine lw_op rfl rfl rfl (ow_assign rfl rfl ?_)
        refine lw_nil ?_
        refine ew_then ?_
        refine cw_ret ?_
        refine ew_blockR ?_
        refine ew_thenR ?_
        refine ew_thenR ?_
        refine ew_blockR ?_
        refine ew_brkR ?_
        refine ew_thenR ?_
        have e1 := hR1 _ (Option.some.inj hb2).symm
        subst e1
        obtain rfl := Option.some.inj h
        exact ew_ret (res1 rfl (.tmp rfl)) ⟨_, rfl, ((vbool _)), hC2.bx⟩
      · obtain rfl := hbb2.trans hc2
        refine cw_false rfl ?_
        refine cw_skip ?_
        refine ew_blockN ?_
        refine ew_then ?_
        refine cw_region ?_
        refine lw_op rfl rfl rfl (ow_add rfl rfl rfl ?_)
        refine lw_op rfl rfl rfl (ow_move rfl rfl ?_)
        refine lw_nil ?_
        refine ew_nxt (W (k1 + 1)) hb2 fun a ha => ⟨M1, ?_, hl2, hC2⟩
        exact ha.sub ⟨rfl, rfl, trivial⟩
    · obtain rfl := hbb1.trans hc1
      refine cw_false rfl ?_
      refine cw_exit ?_
      refine ew_thenX ?_
      refine ew_thenX ?_
      refine ew_blockX ?_
      refine ew_brk k1 hb2 fun a ha => ⟨M1, ?_, hl2, hC2⟩
      exact ha.sub ⟨rfl, rfl, trivial⟩
  · rintro k2 a w3 hlr2 ⟨M2, hF2, hl3, hC3⟩
    subst hlr2
    refine ew_at (E := [(5, v1), (6, (.int .i64 k2))]) hF2 ?_
    refine ew_then ?_
    refine cw_seq ?_
    refine cw_region ?_
    refine lw_op rfl rfl rfl (ow_assign rfl rfl ?_)
    refine lw_nil ?_
    refine ew_then ?_
    refine cw_ret ?_
    obtain rfl := Option.some.inj h
    exact ew_ret (res1 rfl (.tmp rfl)) ⟨_, rfl, ((vbool _)), hC3.bx⟩

theorem w_impl_BoxEmpty {w : World} {M : Nat → Prop} (hG : ARep (RArr 4 RShape) w M shapes ⟨0, 0, none⟩) (hO : ∀ b, M b → b < w.heap.size) {v0p : Value} {a_b : Box} (h0 : VRep RBox w M a_b v0p) {r : Bool} (h : F.impl_BoxEmpty a_b = some r) :
    Calls Tryd.prog 25 [v0p].toArray w fun e w' => ∃ v, e = .returned v ∧ VRep RBool w' M r v ∧ BX No w w' := by
  have hC : Cx No w M w M := Cx.start hO (fun _ e => e.elim)
  refine walk (N := 10) Tryd.func25 rfl Tryd.ntmps25 rfl ?_
  refine cw_seq ?_
  refine cw_region ?_
  refine lw_op rfl rfl rfl (ow_box (R := RBox) rfl rfl h0 hC fun p1 w1 hp1 hb1 hl1 hC1 => ?_)
  refine lw_op rfl rfl rfl (ow_assign rfl rfl ?_)
  refine lw_nil ?_
  refine ew_then ?_
  refine cw_seq ?_
  refine cw_region ?_
  refine lw_op rfl rfl rfl (ow_load (R := RBox) rfl rfl hp1 (Tryd.sizeOf24 _) (Tryd.isAgg24 _) fun v1 hv1 => ?_)
  replace h := bind_some h
  obtain ⟨x1, hx1, h⟩ := h
  refine lw_op rfl rfl rfl (ow_call rfl rfl Tryd.call23 (w_impl_BoxValid (hG.mono hl1) hC1.old hv1 hx1) fun v2 w2 hv2 => ?_)
  obtain ⟨hv2, hb2⟩ := hv2
  have hl2 := Le.no M hb2
  have hC2 := hC1.no hb2
  obtain rfl := vbool_eq hv2
  refine lw_op rfl rfl rfl (ow_move rfl rfl ?_)
  replace h := cond_some h
  rcases h with ⟨hc1, h⟩ | ⟨hc1, h⟩
  · subst hc1
    refine lw_on rfl rfl rfl rfl rfl rfl (ow_load (R := RBox) rfl rfl (ARep.mono hl2 hp1) (Tryd.sizeOf24 _) (Tryd.isAgg24 _) fun v3 hv3 => ?_)
    replace h := bind_some h
    obtain ⟨x2, hx2, h⟩ := h
    refine lw_on rfl rfl rfl rfl rfl rfl (ow_call rfl rfl Tryd.call77 (w_impl_sidesOf (hG.mono (hl1.trans hl2)) hC2.old hv3 hx2) fun v4 w3 hv4 => ?_)
    obtain ⟨hv4, hb3⟩ := hv4
    have hl3 := Le.no M hb3
    have hC3 := hC2.no hb3
    replace h := bind_some h
    obtain ⟨x3, hx3, h⟩ := h
    refine lw_on rfl rfl rfl rfl rfl rfl (ow_call rfl rfl Tryd.call78 (w_impl_sides_empty (hG.mono ((hl1.trans hl2).trans hl3)) hC3.old hv4 hx3) fun v5 w4 hv5 => ?_)
    obtain ⟨hv5, hb4⟩ := hv5
    have hl4 := Le.no M hb4
    have hC4 := hC3.no hb4
    obtain rfl := vbool_eq hv5
    refine lw_op rfl rfl rfl (ow_pickT rfl rfl rfl ?_)
    refine lw_op rfl rfl rfl (ow_assign rfl rfl ?_)
    refine lw_nil ?_
    refine ew_then ?_
    refine cw_ret ?_
    obtain rfl := Option.some.inj h
    exact ew_ret (res1 rfl (.tmp rfl)) ⟨_, rfl, ((vbool _)), hC4.bx⟩
  · subst hc1
    refine lw_off rfl rfl rfl rfl rfl rfl ?_
    refine lw_off rfl rfl rfl rfl rfl rfl ?_
    refine lw_off rfl rfl rfl rfl rfl rfl ?_
    refine lw_op rfl rfl rfl (ow_pickF rfl rfl rfl ?_)
    refine lw_op rfl rfl rfl (ow_assign rfl rfl ?_)
    refine lw_nil ?_
    refine ew_then ?_
    refine cw_ret ?_
    obtain rfl := Option.some.inj h
    exact ew_ret (res1 rfl (.tmp rfl)) ⟨_, rfl, ((vbool _)), hC2.bx⟩

theorem w_laws_sameSpans {w : World} {M : Nat → Prop} (_hG : ARep (RArr 4 RShape) w M shapes ⟨0, 0, none⟩) (hO : ∀ b, M b → b < w.heap.size) {v0p : Value} {a_a : List Span} (h0 : VRep (RSlice RSpan) w M a_a v0p) {v1p : Value} {a_b : List Span} (h1 : VRep (RSlice RSpan) w M a_b v1p) {r : Bool} (h : F.laws_sameSpans a_a a_b = some r) :
    Calls Tryd.prog 79 [v0p, v1p].toArray w fun e w' => ∃ v, e = .returned v ∧ VRep RBool w' M r v ∧ BX No w w' := by
  have hC : Cx No w M w M := Cx.start hO (fun _ e => e.elim)
  clear _hG
  refine walk (N := 26) Tryd.func79 rfl Tryd.ntmps79 rfl ?_
  refine cw_seq ?_
  refine cw_region ?_
  refine lw_op rfl rfl rfl (ow_assign rfl rfl ?_)
  refine lw_nil ?_
  refine ew_then ?_
  refine cw_seq ?_
  refine cw_seq ?_
  refine cw_region ?_
  refine lw_op rfl rfl rfl (ow_move rfl rfl ?_)
  refine lw_op rfl rfl rfl (ow_len rfl rfl h0 Tryd.underlying93 rfl ?_)
  refine lw_op rfl rfl rfl (ow_move rfl rfl ?_)
  refine lw_op rfl rfl rfl (ow_len rfl rfl h1 Tryd.underlying93 rfl ?_)
  refine lw_op rfl rfl rfl (ow_neqI rfl rfl rfl fun bb1 hbb1 => ?_)
  refine lw_nil ?_
  refine ew_then ?_
  replace h := cond_some h
  rcases h with ⟨hc1, h⟩ | ⟨hc1, h⟩
  · obtain rfl := hbb1.trans hc1
    refine cw_true rfl ?_
    refine cw_seq ?_
    refine cw_region ?_
    refine lw_op rfl rfl rfl (ow_assign rfl rfl ?_)
    refine lw_nil ?_
    refine ew_then ?_
    refine cw_ret ?_
    refine ew_thenR ?_
    obtain rfl := Option.some.inj h
    exact ew_ret (res1 rfl (.tmp rfl)) ⟨_, rfl, ((vbool _)), hC.bx⟩
  · obtain rfl := hbb1.trans hc1
    refine cw_false rfl ?_
    refine cw_skip ?_
    refine ew_then ?_
    refine cw_seq ?_
    refine cw_seq ?_
    refine cw_region ?_
    refine lw_op rfl rfl rfl (ow_assign rfl rfl ?_)
    refine lw_nil ?_
    refine ew_then ?_
    replace h := bind_some h
    obtain ⟨lr1, hlr1, h⟩ := h
    refine cw_for hlr1 (fun s a w' => ∃ (M' : Nat → Prop), Fits 26 [(0, v0p), (1, v1p), (5, (.int .i64 s))] a ∧ Le w M w' M' ∧ Cx No w M w' M') ?_ ?_ ?_
    · intro a ha
      exact ⟨M, ha.sub ⟨rfl, rfl, rfl, trivial⟩, Le.refl _ _, hC⟩
    · rintro k1 a w1 sr1 ⟨M1, hF1, hl1, hC1⟩ hb1 hR1
      refine cw_at (E := [(0, v0p), (1, v1p), (5, (.int .i64 k1))]) hF1 ?_
      refine cw_seq ?_
      refine cw_seq ?_
      refine cw_region ?_
      refine lw_op rfl rfl rfl (ow_move rfl rfl ?_)
      refine lw_op rfl rfl rfl (ow_move rfl rfl ?_)
      refine lw_op rfl rfl rfl (ow_len rfl rfl (VRep.mono hl1 h0) Tryd.underlying93 rfl ?_)
      refine lw_op rfl rfl rfl (ow_lss rfl rfl rfl fun bb2 hbb2 => ?_)
      refine lw_nil ?_
      refine ew_then ?_
      replace hb1 := cond_some hb1
      rcases hb1 with ⟨hc2, hb1⟩ | ⟨hc2, hb1⟩
      · obtain rfl := hbb2.trans hc2
        refine cw_true rfl ?_
        refine cw_skip ?_
        refine ew_then ?_
        refine cw_seq ?_
        refine cw_block ?_
        refine cw_seq ?_
        replace hb1 := bind_some hb1
        obtain ⟨x1, hx1, hb1⟩ := hb1
        replace hb1 := bind_some hb1
        obtain ⟨x2, hx2, hb1⟩ := hb1
        refine cw_sub (E' := [(0, v0p), (1, v1p), (5, (.int .i64 k1))]) ⟨rfl, rfl, rfl, trivial⟩ ?_
        refine cw_drawQ 8 [PV (RSlice RSpan) M1 a_a, PEq (.int .i64 k1), PA RSpan M1 x1, PV RSpan M1 x1, PV (RSlice RSpan) M1 a_b, PEq (.int .i64 k1), PA RSpan M1 x2, PV RSpan M1 x2] (by kernel_rfl) rfl (by kernel_rfl) ⟨PV.mono _ _ _, PEq.mono _, PA.mono _ _ _, PV.mono _ _ _, PV.mono _ _ _, PEq.mono _, PA.mono _ _ _, PV.mono _ _ _, trivial⟩ ⟨?_, ?_, ?_, ?_, ?_, ?_, ?_, ?_, trivial⟩ ?_
        · intro w2 D hS1 hd1
          have hl2 := Le.no M1 hS1
          have hC2 := hC1.no hS1
          refine dg_sub (E' := [(0, v0p)]) ⟨rfl, trivial⟩ ?_
          refine dg_plain rfl (ow_move rfl rfl ?_)
          exact ⟨BX.refl _ _, (VRep.mono (hl1.trans hl2) h0)⟩
        · intro w3 D hS2 hd2
          have hl3 := Le.no M1 hS2
          have hC3 := hC1.no hS2
          refine dg_sub (E' := [(5, (.int .i64 k1))]) ⟨rfl, trivial⟩ ?_
          refine dg_plain rfl (ow_move rfl rfl ?_)
          exact ⟨BX.refl _ _, rfl⟩
        · intro w4 D hS3 hd3
          have hl4 := Le.no M1 hS3
          have hC4 := hC1.no hS3
          have hd3 : PV (RSlice RSpan) M1 a_a (D 0) w4 ∧ PEq (.int .i64 k1) (D 1) w4 ∧ True := hd3
          obtain ⟨d1, d2, -⟩ := hd3
          obtain ⟨v4, hq1⟩ : ∃ v, (D 0) = v := ⟨_, rfl⟩
          rw [hq1] at d1
          refine dg_sub (E' := [(17, v4), (18, (.int .i64 k1))]) ⟨(congrArg some hq1), (congrArg some d2), trivial⟩ ?_
          refine dg_plain rfl (ow_indexSlice (R := RSpan) rfl rfl rfl d1 Tryd.underlying93 (Tryd.sizeOf92 _) hx1 fun p3 hp3 => ?_)
          exact ⟨BX.refl _ _, ⟨_, rfl, hp3⟩⟩
        · intro w5 D hS4 hd4
          have hl5 := Le.no M1 hS4
          have hC5 := hC1.no hS4
          have hd4 : PA RSpan M1 x1 (D 2) w5 ∧ True := hd4
          obtain ⟨d3, -⟩ := hd4
          obtain ⟨p4, e1, ha1⟩ := d3
          refine dg_sub (E' := [(19, (.pointer (some p4)))]) ⟨(congrArg some e1), trivial⟩ ?_
          refine dg_plain rfl (ow_load (R := RSpan) rfl rfl ha1 (Tryd.sizeOf92 _) (Tryd.isAgg92 _) fun v5 hv5 => ?_)
          exact ⟨BX.refl _ _, hv5⟩
        · intro w6 D hS5 hd5
          have hl6 := Le.no M1 hS5
          have hC6 := hC1.no hS5
          refine dg_sub (E' := [(1, v1p)]) ⟨rfl, trivial⟩ ?_
          refine dg_plain rfl (ow_move rfl rfl ?_)
          exact ⟨BX.refl _ _, (VRep.mono (hl1.trans hl6) h1)⟩
        · intro w7 D hS6 hd6
          have hl7 := Le.no M1 hS6
          have hC7 := hC1.no hS6
          refine dg_sub (E' := [(5, (.int .i64 k1))]) ⟨rfl, trivial⟩ ?_
          refine dg_plain rfl (ow_move rfl rfl ?_)
          exact ⟨BX.refl _ _, rfl⟩
        · intro w8 D hS7 hd7
          have hl8 := Le.no M1 hS7
          have hC8 := hC1.no hS7
          have hd7 : PV (RSlice RSpan) M1 a_b (D 4) w8 ∧ PEq (.int .i64 k1) (D 5) w8 ∧ True := hd7
          obtain ⟨d4, d5, -⟩ := hd7
          obtain ⟨v6, hq2⟩ : ∃ v, (D 4) = v := ⟨_, rfl⟩
          rw [hq2] at d4
          refine dg_sub (E' := [(21, v6), (22, (.int .i64 k1))]) ⟨(congrArg some hq2), (congrArg some d5), trivial⟩ ?_
          refine dg_plain rfl (ow_indexSlice (R := RSpan) rfl rfl rfl d4 Tryd.underlying93 (Tryd.sizeOf92 _) hx2 fun p5 hp5 => ?_)
          exact ⟨BX.refl _ _, ⟨_, rfl, hp5⟩⟩
        · intro w9 D hS8 hd8
          have hl9 := Le.no M1 hS8
          have hC9 := hC1.no hS8
          have hd8 : PA RSpan M1 x2 (D 6) w9 ∧ True := hd8
          obtain ⟨d6, -⟩ := hd8
          obtain ⟨p6, e2, ha2⟩ := d6
          refine dg_sub (E' := [(23, (.pointer (some p6)))]) ⟨(congrArg some e2), trivial⟩ ?_
          refine dg_plain rfl (ow_load (R := RSpan) rfl rfl ha2 (Tryd.sizeOf92 _) (Tryd.isAgg92 _) fun v7 hv7 => ?_)
          exact ⟨BX.refl _ _, hv7⟩
        · intro w10 D hS9 hd9
          have hl10 := Le.no M1 hS9
          have hC10 := hC1.no hS9
          have hd9 : PV (RSlice RSpan) M1 a_a (D 0) w10 ∧ PEq (.int .i64 k1) (D 1) w10 ∧ PA RSpan M1 x1 (D 2) w10 ∧ PV RSpan M1 x1 (D 3) w10 ∧ PV (RSlice RSpan) M1 a_b (D 4) w10 ∧ PEq (.int .i64 k1) (D 5) w10 ∧ PA RSpan M1 x2 (D 6) w10 ∧ PV RSpan M1 x2 (D 7) w10 ∧ True := hd9
          obtain ⟨-, -, -, d10, -, -, -, d14, -⟩ := hd9
          obtain ⟨v8, hq3⟩ : ∃ v, (D 3) = v := ⟨_, rfl⟩
          rw [hq3] at d10
          obtain ⟨v9, hq4⟩ : ∃ v, (D 7) = v := ⟨_, rfl⟩
          rw [hq4] at d14
          refine lw_sub (E' := [(20, v8), (24, v9), (0, v0p), (1, v1p), (5, (.int .i64 k1))]) ⟨(congrArg some hq3), (congrArg some hq4), rfl, rfl, rfl, trivial⟩ ?_
          obtain rfl := open_Span d10
          obtain rfl := open_Span d14
          refine lw_op rfl rfl rfl (ow_neqS rfl rfl rfl (Tryd.eqGuardType92) (eqS92 (x := x1) (y := x2) _) fun bb3 hbb3 => ?_)
          refine lw_nil ?_
          refine ew_then ?_
          replace hb1 := cond_some hb1
          rcases hb1 with ⟨hc3, hb1⟩ | ⟨hc3, hb1⟩
          · obtain rfl := hbb3.trans hc3
            refine cw_true rfl ?_
            refine cw_seq ?_
            refine cw_region ?_
            refine lw_op rfl rfl rfl (ow_assign rfl rfl ?_)
            refine lw_nil ?_
            refine ew_then ?_
            refine cw_ret ?_
            refine ew_blockR ?_
            refine ew_thenR ?_
            refine ew_thenR ?_
            refine ew_blockR ?_
            refine ew_brkR ?_
            refine ew_thenR ?_
            have e3 := hR1 _ (Option.some.inj hb1).symm
            subst e3
            obtain rfl := Option.some.inj h
            exact ew_ret (res1 rfl (.tmp rfl)) ⟨_, rfl, ((vbool _)), hC10.bx⟩
          · obtain rfl := hbb3.trans hc3
            refine cw_false rfl ?_
            refine cw_skip ?_
            refine ew_blockN ?_
            refine ew_then ?_
            refine cw_region ?_
            refine lw_op rfl rfl rfl (ow_move rfl rfl ?_)
            refine lw_op rfl rfl rfl (ow_add rfl rfl rfl ?_)
            refine lw_op rfl rfl rfl (ow_assign rfl rfl ?_)
            refine lw_nil ?_
            refine ew_nxt (W (k1 + 1)) hb1 fun a ha => ⟨M1, ?_, (hl1.trans hl10), hC10⟩
            exact ha.sub ⟨rfl, rfl, rfl, trivial⟩
      · obtain rfl := hbb2.trans hc2
        refine cw_false rfl ?_
        refine cw_exit ?_
        refine ew_thenX ?_
        refine ew_thenX ?_
        refine ew_blockX ?_
        refine ew_brk k1 hb1 fun a ha => ⟨M1, ?_, hl1, hC1⟩
        exact ha.sub ⟨rfl, rfl, rfl, trivial⟩
    · rintro k2 a w11 hlr2 ⟨M2, hF2, hl11, hC11⟩
      subst hlr2
      refine ew_at (E := [(0, v0p), (1, v1p), (5, (.int .i64 k2))]) hF2 ?_
      refine ew_then ?_
      refine cw_seq ?_
      refine cw_region ?_
      refine lw_op rfl rfl rfl (ow_assign rfl rfl ?_)
      refine lw_nil ?_
      refine ew_then ?_
      refine cw_ret ?_
      obtain rfl := Option.some.inj h
      exact ew_ret (res1 rfl (.tmp rfl)) ⟨_, rfl, ((vbool _)), hC11.bx⟩

theorem w_laws_sameBox {w : World} {M : Nat → Prop} (hG : ARep (RArr 4 RShape) w M shapes ⟨0, 0, none⟩) (hO : ∀ b, M b → b < w.heap.size) {v0p : Value} {a_a : Box} (h0 : VRep RBox w M a_a v0p) {v1p : Value} {a_b : Box} (h1 : VRep RBox w M a_b v1p) {r : Bool} (h : F.laws_sameBox a_a a_b = some r) :
    Calls Tryd.prog 26 [v0p, v1p].toArray w fun e w' => ∃ v, e = .returned v ∧ VRep RBool w' M r v ∧ BX No w w' := by
  have hC : Cx No w M w M := Cx.start hO (fun _ e => e.elim)
  refine walk (N := 32) Tryd.func26 rfl Tryd.ntmps26 rfl ?_
  refine cw_seq ?_
  refine cw_region ?_
  refine lw_op rfl rfl rfl (ow_box (R := RBox) rfl rfl h0 hC fun p1 w1 hp1 hb1 hl1 hC1 => ?_)
  refine lw_op rfl rfl rfl (ow_box (R := RBox) rfl rfl (VRep.mono hl1 h1) hC1 fun p2 w2 hp2 hb2 hl2 hC2 => ?_)
  refine lw_op rfl rfl rfl (ow_assign rfl rfl ?_)
  refine lw_nil ?_
  refine ew_then ?_
  refine cw_seq ?_
  refine cw_seq ?_
  refine cw_region ?_
  refine lw_op rfl rfl rfl (ow_fieldAddr rfl rfl Tryd.underlying24 rfl (Tryd.sizeOf22 _) ?_)
  refine lw_op rfl rfl rfl (ow_load (R := (RSlice (RSlice RSpan))) rfl rfl (ARep.mono hl2 (hp1.fld fld_Box_Sides)) (Tryd.sizeOf22 _) (Tryd.isAgg22 _) fun v1 hv1 => ?_)
  refine lw_op rfl rfl rfl (ow_len rfl rfl hv1 Tryd.underlying22 rfl ?_)
  refine lw_op rfl rfl rfl (ow_fieldAddr rfl rfl Tryd.underlying24 rfl (Tryd.sizeOf22 _) ?_)
  refine lw_op rfl rfl rfl (ow_load (R := (RSlice (RSlice RSpan))) rfl rfl (hp2.fld fld_Box_Sides) (Tryd.sizeOf22 _) (Tryd.isAgg22 _) fun v2 hv2 => ?_)
  refine lw_op rfl rfl rfl (ow_len rfl rfl hv2 Tryd.underlying22 rfl ?_)
  refine lw_op rfl rfl rfl (ow_neqI rfl rfl rfl fun bb1 hbb1 => ?_)
  refine lw_nil ?_
  refine ew_then ?_
  replace h := cond_some h
  rcases h with ⟨hc1, h⟩ | ⟨hc1, h⟩
  · obtain rfl := hbb1.trans hc1
    refine cw_true rfl ?_
    refine cw_seq ?_
    refine cw_region ?_
    refine lw_op rfl rfl rfl (ow_assign rfl rfl ?_)
    refine lw_nil ?_
    refine ew_then ?_
    refine cw_ret ?_
    refine ew_thenR ?_
    obtain rfl := Option.some.inj h
    exact ew_ret (res1 rfl (.tmp rfl)) ⟨_, rfl, ((vbool _)), hC2.bx⟩
  · obtain rfl := hbb1.trans hc1
    refine cw_false rfl ?_
    refine cw_skip ?_
    refine ew_then ?_
    refine cw_seq ?_
    refine cw_seq ?_
    refine cw_region ?_
    refine lw_op rfl rfl rfl (ow_assign rfl rfl ?_)
    refine lw_nil ?_
    refine ew_then ?_
    replace h := bind_some h
    obtain ⟨lr1, hlr1, h⟩ := h
    refine cw_for hlr1 (fun s a w' => ∃ (M' : Nat → Prop), Fits 32 [(2, (.pointer (some p1))), (3, (.pointer (some p2))), (5, (.int .i64 s))] a ∧ Le w2 M w' M' ∧ Cx No w M w' M') ?_ ?_ ?_
    · intro a ha
      exact ⟨M, ha.sub ⟨rfl, rfl, rfl, trivial⟩, Le.refl _ _, hC2⟩
    · rintro k1 a w3 sr1 ⟨M1, hF1, hl3, hC3⟩ hb3 hR1
      refine cw_at (E := [(2, (.pointer (some p1))), (3, (.pointer (some p2))), (5, (.int .i64 k1))]) hF1 ?_
      refine cw_seq ?_
      refine cw_seq ?_
      refine cw_region ?_
      refine lw_op rfl rfl rfl (ow_move rfl rfl ?_)
      refine lw_op rfl rfl rfl (ow_fieldAddr rfl rfl Tryd.underlying24 rfl (Tryd.sizeOf22 _) ?_)
      refine lw_op rfl rfl rfl (ow_load (R := (RSlice (RSlice RSpan))) rfl rfl (ARep.mono (hl2.trans hl3) (hp1.fld fld_Box_Sides)) (Tryd.sizeOf22 _) (Tryd.isAgg22 _) fun v4 hv4 => ?_)
      refine lw_op rfl rfl rfl (ow_len rfl rfl hv4 Tryd.underlying22 rfl ?_)
      refine lw_op rfl rfl rfl (ow_lss rfl rfl rfl fun bb2 hbb2 => ?_)
      refine lw_nil ?_
      refine ew_then ?_
      replace hb3 := cond_some hb3
      rcases hb3 with ⟨hc2, hb3⟩ | ⟨hc2, hb3⟩
      · obtain rfl := hbb2.trans hc2
        refine cw_true rfl ?_
        refine cw_skip ?_
        refine ew_then ?_
        refine cw_seq ?_
        refine cw_block ?_
        refine cw_seq ?_
        replace hb3 := bind_some hb3
        obtain ⟨x1, hx1, hb3⟩ := hb3
        replace hb3 := bind_some hb3
        obtain ⟨x2, hx2, hb3⟩ := hb3
        refine cw_sub (E' := [(2, (.pointer (some p1))), (3, (.pointer (some p2))), (5, (.int .i64 k1))]) ⟨rfl, rfl, rfl, trivial⟩ ?_
        refine cw_drawQ 10 [PA (RSlice (RSlice RSpan)) M1 a_a.Sides, PV (RSlice (RSlice RSpan)) M1 a_a.Sides, PEq (.int .i64 k1), PA (RSlice RSpan) M1 x1, PV (RSlice RSpan) M1 x1, PA (RSlice (RSlice RSpan)) M1 a_b.Sides, PV (RSlice (RSlice RSpan)) M1 a_b.Sides, PEq (.int .i64 k1), PA (RSlice RSpan) M1 x2, PV (RSlice RSpan) M1 x2] (by kernel_rfl) rfl (by kernel_rfl) ⟨PA.mono _ _ _, PV.mono _ _ _, PEq.mono _, PA.mono _ _ _, PV.mono _ _ _, PA.mono _ _ _, PV.mono _ _ _, PEq.mono _, PA.mono _ _ _, PV.mono _ _ _, trivial⟩ ⟨?_, ?_, ?_, ?_, ?_, ?_, ?_, ?_, ?_, ?_, trivial⟩ ?_
        · intro w4 D hS1 hd1
          have hl4 := Le.no M1 hS1
          have hC4 := hC3.no hS1
          refine dg_sub (E' := [(2, (.pointer (some p1)))]) ⟨rfl, trivial⟩ ?_
          refine dg_plain rfl (ow_fieldAddr rfl rfl Tryd.underlying24 rfl (Tryd.sizeOf22 _) ?_)
          exact ⟨BX.refl _ _, ⟨_, rfl, (ARep.mono ((hl2.trans hl3).trans hl4) (hp1.fld fld_Box_Sides))⟩⟩
        · intro w5 D hS2 hd2
          have hl5 := Le.no M1 hS2
          have hC5 := hC3.no hS2
          have hd2 : PA (RSlice (RSlice RSpan)) M1 a_a.Sides (D 0) w5 ∧ True := hd2
          obtain ⟨d1, -⟩ := hd2
          obtain ⟨p5, e1, ha1⟩ := d1
          refine dg_sub (E' := [(20, (.pointer (some p5)))]) ⟨(congrArg some e1), trivial⟩ ?_
          refine dg_plain rfl (ow_load (R := (RSlice (RSlice RSpan))) rfl rfl ha1 (Tryd.sizeOf22 _) (Tryd.isAgg22 _) fun v9 hv9 => ?_)
          exact ⟨BX.refl _ _, hv9⟩
        · intro w6 D hS3 hd3
          have hl6 := Le.no M1 hS3
          have hC6 := hC3.no hS3
          refine dg_sub (E' := [(5, (.int .i64 k1))]) ⟨rfl, trivial⟩ ?_
          refine dg_plain rfl (ow_move rfl rfl ?_)
          exact ⟨BX.refl _ _, rfl⟩
        · intro w7 D hS4 hd4
          have hl7 := Le.no M1 hS4
          have hC7 := hC3.no hS4
          have hd4 : PV (RSlice (RSlice RSpan)) M1 a_a.Sides (D 1) w7 ∧ PEq (.int .i64 k1) (D 2) w7 ∧ True := hd4
          obtain ⟨d2, d3, -⟩ := hd4
          obtain ⟨v10, hq1⟩ : ∃ v, (D 1) = v := ⟨_, rfl⟩
          rw [hq1] at d2
          refine dg_sub (E' := [(21, v10), (22, (.int .i64 k1))]) ⟨(congrArg some hq1), (congrArg some d3), trivial⟩ ?_
          refine dg_plain rfl (ow_indexSlice (R := (RSlice RSpan)) rfl rfl rfl d2 Tryd.underlying22 (Tryd.sizeOf93 _) hx1 fun p6 hp6 => ?_)
          exact ⟨BX.refl _ _, ⟨_, rfl, hp6⟩⟩
        · intro w8 D hS5 hd5
          have hl8 := Le.no M1 hS5
          have hC8 := hC3.no hS5
          have hd5 : PA (RSlice RSpan) M1 x1 (D 3) w8 ∧ True := hd5
          obtain ⟨d4, -⟩ := hd5
          obtain ⟨p7, e2, ha2⟩ := d4
          refine dg_sub (E' := [(23, (.pointer (some p7)))]) ⟨(congrArg some e2), trivial⟩ ?_
          refine dg_plain rfl (ow_load (R := (RSlice RSpan)) rfl rfl ha2 (Tryd.sizeOf93 _) (Tryd.isAgg93 _) fun v11 hv11 => ?_)
          exact ⟨BX.refl _ _, hv11⟩
        · intro w9 D hS6 hd6
          have hl9 := Le.no M1 hS6
          have hC9 := hC3.no hS6
          refine dg_sub (E' := [(3, (.pointer (some p2)))]) ⟨rfl, trivial⟩ ?_
          refine dg_plain rfl (ow_fieldAddr rfl rfl Tryd.underlying24 rfl (Tryd.sizeOf22 _) ?_)
          exact ⟨BX.refl _ _, ⟨_, rfl, (ARep.mono (hl3.trans hl9) (hp2.fld fld_Box_Sides))⟩⟩
        · intro w10 D hS7 hd7
          have hl10 := Le.no M1 hS7
          have hC10 := hC3.no hS7
          have hd7 : PA (RSlice (RSlice RSpan)) M1 a_b.Sides (D 5) w10 ∧ True := hd7
          obtain ⟨d5, -⟩ := hd7
          obtain ⟨p8, e3, ha3⟩ := d5
          refine dg_sub (E' := [(25, (.pointer (some p8)))]) ⟨(congrArg some e3), trivial⟩ ?_
          refine dg_plain rfl (ow_load (R := (RSlice (RSlice RSpan))) rfl rfl ha3 (Tryd.sizeOf22 _) (Tryd.isAgg22 _) fun v12 hv12 => ?_)
          exact ⟨BX.refl _ _, hv12⟩
        · intro w11 D hS8 hd8
          have hl11 := Le.no M1 hS8
          have hC11 := hC3.no hS8
          refine dg_sub (E' := [(5, (.int .i64 k1))]) ⟨rfl, trivial⟩ ?_
          refine dg_plain rfl (ow_move rfl rfl ?_)
          exact ⟨BX.refl _ _, rfl⟩
        · intro w12 D hS9 hd9
          have hl12 := Le.no M1 hS9
          have hC12 := hC3.no hS9
          have hd9 : PV (RSlice (RSlice RSpan)) M1 a_b.Sides (D 6) w12 ∧ PEq (.int .i64 k1) (D 7) w12 ∧ True := hd9
          obtain ⟨d6, d7, -⟩ := hd9
          obtain ⟨v13, hq2⟩ : ∃ v, (D 6) = v := ⟨_, rfl⟩
          rw [hq2] at d6
          refine dg_sub (E' := [(26, v13), (27, (.int .i64 k1))]) ⟨(congrArg some hq2), (congrArg some d7), trivial⟩ ?_
          refine dg_plain rfl (ow_indexSlice (R := (RSlice RSpan)) rfl rfl rfl d6 Tryd.underlying22 (Tryd.sizeOf93 _) hx2 fun p9 hp9 => ?_)
          exact ⟨BX.refl _ _, ⟨_, rfl, hp9⟩⟩
        · intro w13 D hS10 hd10
          have hl13 := Le.no M1 hS10
          have hC13 := hC3.no hS10
          have hd10 : PA (RSlice RSpan) M1 x2 (D 8) w13 ∧ True := hd10
          obtain ⟨d8, -⟩ := hd10
          obtain ⟨p10, e4, ha4⟩ := d8
          refine dg_sub (E' := [(28, (.pointer (some p10)))]) ⟨(congrArg some e4), trivial⟩ ?_
          refine dg_plain rfl (ow_load (R := (RSlice RSpan)) rfl rfl ha4 (Tryd.sizeOf93 _) (Tryd.isAgg93 _) fun v14 hv14 => ?_)
          exact ⟨BX.refl _ _, hv14⟩
        · intro w14 D hS11 hd11
          have hl14 := Le.no M1 hS11
          have hC14 := hC3.no hS11
          have hd11 : PA (RSlice (RSlice RSpan)) M1 a_a.Sides (D 0) w14 ∧ PV (RSlice (RSlice RSpan)) M1 a_a.Sides (D 1) w14 ∧ PEq (.int .i64 k1) (D 2) w14 ∧ PA (RSlice RSpan) M1 x1 (D 3) w14 ∧ PV (RSlice RSpan) M1 x1 (D 4) w14 ∧ PA (RSlice (RSlice RSpan)) M1 a_b.Sides (D 5) w14 ∧ PV (RSlice (RSlice RSpan)) M1 a_b.Sides (D 6) w14 ∧ PEq (.int .i64 k1) (D 7) w14 ∧ PA (RSlice RSpan) M1 x2 (D 8) w14 ∧ PV (RSlice RSpan) M1 x2 (D 9) w14 ∧ True := hd11
          obtain ⟨-, -, -, -, d13, -, -, -, -, d18, -⟩ := hd11
          obtain ⟨v15, hq3⟩ : ∃ v, (D 4) = v := ⟨_, rfl⟩
          rw [hq3] at d13
          obtain ⟨v16, hq4⟩ : ∃ v, (D 9) = v := ⟨_, rfl⟩
          rw [hq4] at d18
          refine lw_sub (E' := [(24, v15), (29, v16), (2, (.pointer (some p1))), (3, (.pointer (some p2))), (5, (.int .i64 k1))]) ⟨(congrArg some hq3), (congrArg some hq4), rfl, rfl, rfl, trivial⟩ ?_
          replace hb3 := bind_some hb3
          obtain ⟨x3, hx3, hb3⟩ := hb3
          refine lw_op rfl rfl rfl (ow_call rfl rfl Tryd.call79 (w_laws_sameSpans (hG.mono (((hl1.trans hl2).trans hl3).trans hl14)) hC14.old d13 d18 hx3) fun v17 w15 hv17 => ?_)
          obtain ⟨hv17, hb4⟩ := hv17
          have hl15 := Le.no M1 hb4
          have hC15 := hC14.no hb4
          obtain rfl := vbool_eq hv17
          refine lw_op rfl rfl rfl (ow_not rfl rfl ?_)
          refine lw_nil ?_
          refine ew_then ?_
          replace hb3 := cond_some hb3
          rcases hb3 with ⟨hc3, hb3⟩ | ⟨hc3, hb3⟩
          · subst hc3
            refine cw_false rfl ?_
            refine cw_skip ?_
            refine ew_blockN ?_
            refine ew_then ?_
            refine cw_region ?_
            refine lw_op rfl rfl rfl (ow_move rfl rfl ?_)
            refine lw_op rfl rfl rfl (ow_add rfl rfl rfl ?_)
            refine lw_op rfl rfl rfl (ow_assign rfl rfl ?_)
            refine lw_nil ?_
            refine ew_nxt (W (k1 + 1)) hb3 fun a ha => ⟨M1, ?_, ((hl3.trans hl14).trans hl15), hC15⟩
            exact ha.sub ⟨rfl, rfl, rfl, trivial⟩
          · subst hc3
            refine cw_true rfl ?_
            refine cw_seq ?_
            refine cw_region ?_
            refine lw_op rfl rfl rfl (ow_assign rfl rfl ?_)
            refine lw_nil ?_
            refine ew_then ?_
            refine cw_ret ?_
            refine ew_blockR ?_
            refine ew_thenR ?_
            refine ew_thenR ?_
            refine ew_blockR ?_
            refine ew_brkR ?_
            refine ew_thenR ?_
            have e5 := hR1 _ (Option.some.inj hb3).symm
            subst e5
            obtain rfl := Option.some.inj h
            exact ew_ret (res1 rfl (.tmp rfl)) ⟨_, rfl, ((vbool _)), hC15.bx⟩
      · obtain rfl := hbb2.trans hc2
        refine cw_false rfl ?_
        refine cw_exit ?_
        refine ew_thenX ?_
        refine ew_thenX ?_
        refine ew_blockX ?_
        refine ew_brk k1 hb3 fun a ha => ⟨M1, ?_, hl3, hC3⟩
        exact ha.sub ⟨rfl, rfl, rfl, trivial⟩
    · rintro k2 a w16 hlr2 ⟨M2, hF2, hl16, hC16⟩
      subst hlr2
      refine ew_at (E := [(2, (.pointer (some p1))), (3, (.pointer (some p2))), (5, (.int .i64 k2))]) hF2 ?_
      refine ew_then ?_
      refine cw_seq ?_
      refine cw_region ?_
      refine lw_op rfl rfl rfl (ow_assign rfl rfl ?_)
      refine lw_nil ?_
      refine ew_then ?_
      refine cw_ret ?_
      obtain rfl := Option.some.inj h
      exact ew_ret (res1 rfl (.tmp rfl)) ⟨_, rfl, ((vbool _)), hC16.bx⟩

theorem w_spec_l20Rd_pick {w : World} {M : Nat → Prop} (_hG : ARep (RArr 4 RShape) w M shapes ⟨0, 0, none⟩) (hO : ∀ b, M b → b < w.heap.size) {g : Nat} {Ax : Option Addr} {cx : Nat} {a_xs : List Int} {a_pos : Int} (hxs : VRep (RSlice RU8) w M a_xs (.slice Ax a_xs.length cx)) (hown : Own w g 142 #[.slice Ax a_xs.length cx, .int .i64 a_pos]) (hgM : M g) {a_n : Int} {r : Int × Int} (h : F.spec_l20Rd_pick a_xs a_pos a_n = some r) :
    Calls Tryd.prog 114 [(.pointer (some ⟨g, 0, none⟩)), (.int .i64 a_n)].toArray w fun e w' => ∃ v, e = .returned v ∧ (VRep RInt w' M r.1 v ∧ Own w' g 142 #[.slice Ax a_xs.length cx, .int .i64 r.2]) ∧ BX (One g) w w' := by
  have hX : ∀ b, (One g) b → M b := fun b e => e ▸ hgM
  have hC : Cx (One g) w M w M := Cx.start hO hX
  clear _hG
  refine walk (N := 99) Tryd.func114 rfl Tryd.ntmps114 rfl ?_
  refine cw_seq ?_
  refine cw_region ?_
  refine lw_op rfl rfl rfl (ow_assign rfl rfl ?_)
  refine lw_nil ?_
  refine ew_then ?_
  refine cw_seq ?_
  refine cw_region ?_
  refine lw_op rfl rfl rfl (ow_move rfl rfl ?_)
  refine lw_op rfl rfl rfl (ow_move rfl rfl ?_)
  refine lw_op rfl rfl rfl (ow_nilCheck rfl rfl ?_)
  refine lw_op rfl rfl rfl (ow_fieldAddr rfl rfl Tryd.underlying142 rfl (Tryd.sizeOf3 _) ?_)
  refine lw_op rfl rfl rfl (ow_loadOwn1 rfl rfl rfl hown (Tryd.isAgg3 _) rfl ?_)
  refine lw_op rfl rfl rfl (ow_add rfl rfl rfl ?_)
  refine lw_op rfl rfl rfl (ow_nilCheck rfl rfl ?_)
  refine lw_op rfl rfl rfl (ow_fieldAddr rfl rfl Tryd.underlying142 rfl (Tryd.sizeOf3 _) ?_)
  refine lw_op0 rfl rfl (ow_store (X := (One g)) (us := [(.int .i64 (W (a_pos + 1)))]) (cs' := #[(.slice Ax a_xs.length cx), (.int .i64 (W (a_pos + 1)))]) rfl rfl rfl rfl hown (Tryd.sizeOf3 _) rfl rfl rfl rfl hgM (.inr rfl) rfl hC fun w1 ho1 hb1 hl1 hC1 => ?_)
  refine lw_nil ?_
  refine ew_then ?_
  refine cw_seq ?_
  refine cw_seq ?_
  refine cw_region ?_
  refine lw_op rfl rfl rfl (ow_move rfl rfl ?_)
  refine lw_op rfl rfl rfl (ow_lss rfl rfl rfl fun bb1 hbb1 => ?_)
  refine lw_op rfl rfl rfl (ow_move rfl rfl ?_)
  replace h := cond_some h
  rcases h with ⟨hc1, h⟩ | ⟨hc1, h⟩
  · obtain rfl := hbb1.trans hc1
    refine lw_off rfl rfl rfl rfl rfl rfl ?_
    refine lw_off rfl rfl rfl rfl rfl rfl ?_
    refine lw_off rfl rfl rfl rfl rfl rfl ?_
    refine lw_off rfl rfl rfl rfl rfl rfl ?_
    refine lw_off rfl rfl rfl rfl rfl rfl ?_
    refine lw_off rfl rfl rfl rfl rfl rfl ?_
    refine lw_op rfl rfl rfl (ow_pickT rfl rfl rfl ?_)
    refine lw_nil ?_
    refine ew_then ?_
    refine cw_true rfl ?_
    refine cw_seq ?_
    refine cw_region ?_
    refine lw_op rfl rfl rfl (ow_assign rfl rfl ?_)
    refine lw_nil ?_
    refine ew_then ?_
    refine cw_ret ?_
    refine ew_thenR ?_
    obtain rfl := Option.some.inj h
    exact ew_ret (res1 rfl (.tmp rfl)) ⟨_, rfl, ⟨((vint _)), ho1⟩, hC1.bx⟩
  · obtain rfl := hbb1.trans hc1
    refine lw_on rfl rfl rfl rfl rfl rfl (ow_move rfl rfl ?_)
    refine lw_on rfl rfl rfl rfl rfl rfl (ow_nilCheck rfl rfl ?_)
    refine lw_on rfl rfl rfl rfl rfl rfl (ow_fieldAddr rfl rfl Tryd.underlying142 rfl (Tryd.sizeOf36 _) ?_)
    refine lw_on rfl rfl rfl rfl rfl rfl (ow_loadOwn1 rfl rfl rfl ho1 (Tryd.isAgg36 _) rfl ?_)
    refine lw_on rfl rfl rfl rfl rfl rfl (ow_len rfl rfl (VRep.mono hl1 hxs) Tryd.underlying36 rfl ?_)
    refine lw_on rfl rfl rfl rfl rfl rfl (ow_eqlI rfl rfl rfl fun bb2 hbb2 => ?_)
    refine lw_op rfl rfl rfl (ow_pickF rfl rfl rfl ?_)
    refine lw_nil ?_
    refine ew_then ?_
    replace h := cond_some h
    rcases h with ⟨hc2, h⟩ | ⟨hc2, h⟩
    · obtain rfl := hbb2.trans hc2
      refine cw_true rfl ?_
      refine cw_seq ?_
      refine cw_region ?_
      refine lw_op rfl rfl rfl (ow_assign rfl rfl ?_)
      refine lw_nil ?_
      refine ew_then ?_
      refine cw_ret ?_
      refine ew_thenR ?_
      obtain rfl := Option.some.inj h
      exact ew_ret (res1 rfl (.tmp rfl)) ⟨_, rfl, ⟨((vint _)), ho1⟩, hC1.bx⟩
    · obtain rfl := hbb2.trans hc2
      refine cw_false rfl ?_
      refine cw_skip ?_
      refine ew_then ?_
      refine cw_seq ?_
      refine cw_region ?_
      refine lw_op rfl rfl rfl (ow_move rfl rfl ?_)
      refine lw_op rfl rfl rfl (ow_nilCheck rfl rfl ?_)
      refine lw_op rfl rfl rfl (ow_fieldAddr rfl rfl Tryd.underlying142 rfl (Tryd.sizeOf3 _) ?_)
      refine lw_op rfl rfl rfl (ow_loadOwn1 rfl rfl rfl ho1 (Tryd.isAgg3 _) rfl ?_)
      refine lw_op rfl rfl rfl (ow_sub rfl rfl rfl ?_)
      refine lw_op rfl rfl rfl (ow_assign rfl rfl ?_)
      refine lw_nil ?_
      refine ew_then ?_
      refine cw_seq ?_
      refine cw_seq ?_
      refine cw_region ?_
      refine lw_op rfl rfl rfl (ow_move rfl rfl ?_)
      refine lw_op rfl rfl rfl (ow_move rfl rfl ?_)
      refine lw_op rfl rfl rfl (ow_nilCheck rfl rfl ?_)
      refine lw_op rfl rfl rfl (ow_fieldAddr rfl rfl Tryd.underlying142 rfl (Tryd.sizeOf36 _) ?_)
      refine lw_op rfl rfl rfl (ow_loadOwn1 rfl rfl rfl ho1 (Tryd.isAgg36 _) rfl ?_)
      refine lw_op rfl rfl rfl (ow_len rfl rfl (VRep.mono hl1 hxs) Tryd.underlying36 rfl ?_)
      refine lw_op rfl rfl rfl (ow_lss rfl rfl rfl fun bb3 hbb3 => ?_)
      refine lw_nil ?_
      refine ew_then ?_
      replace h := cond_some h
      rcases h with ⟨hc3, h⟩ | ⟨hc3, h⟩
      · obtain rfl := hbb3.trans hc3
        refine cw_true rfl ?_
        refine cw_seq ?_
        refine cw_region ?_
        refine lw_op rfl rfl rfl (ow_move rfl rfl ?_)
        refine lw_op rfl rfl rfl (ow_nilCheck rfl rfl ?_)
        refine lw_op rfl rfl rfl (ow_fieldAddr rfl rfl Tryd.underlying142 rfl (Tryd.sizeOf36 _) ?_)
        refine lw_op rfl rfl rfl (ow_loadOwn1 rfl rfl rfl ho1 (Tryd.isAgg36 _) rfl ?_)
        refine lw_op rfl rfl rfl (ow_move rfl rfl ?_)
        replace h := bind_some h
        obtain ⟨x1, hx1, h⟩ := h
        refine lw_op rfl rfl rfl (ow_indexSlice (R := RU8) rfl rfl rfl (VRep.mono hl1 hxs) Tryd.underlying36 (Tryd.sizeOf5 _) hx1 fun p1 hp1 => ?_)
        refine lw_op rfl rfl rfl (ow_load (R := RU8) rfl rfl hp1 (Tryd.sizeOf5 _) (Tryd.isAgg5 _) fun v1 hv1 => ?_)
        obtain rfl := vu8_eq hv1
        refine lw_op rfl rfl rfl (ow_u8int rfl rfl (by kernel_rfl) ?_)
        refine lw_op rfl rfl rfl (ow_move rfl rfl ?_)
        replace h := bind_some h
        obtain ⟨u1, hu1, h⟩ := h
        refine lw_op rfl rfl rfl (ow_rem rfl rfl rfl (nzF_some hu1) ?_)
        refine lw_op rfl rfl rfl (ow_assign rfl rfl ?_)
        refine lw_nil ?_
        refine ew_then ?_
        refine cw_ret ?_
        refine ew_thenR ?_
        obtain rfl := Option.some.inj h
        exact ew_ret (res1 rfl (.tmp rfl)) ⟨_, rfl, ⟨((vint _)), ho1⟩, hC1.bx⟩
      · obtain rfl := hbb3.trans hc3
        refine cw_false rfl ?_
        refine cw_skip ?_
        refine ew_then ?_
        refine cw_seq ?_
        replace h := bind_some h
        obtain ⟨u2, hu2, h⟩ := h
        replace h := bind_some h
        obtain ⟨x2, hx2, h⟩ := h
        replace h := bind_some h
        obtain ⟨x3, hx3, h⟩ := h
        refine cw_sub (E' := [(0, (.pointer (some ⟨g, 0, none⟩))), (1, (.int .i64 a_n)), (4, (.int .i64 0)), (5, (.int .i64 (W ((W (a_pos + 1)) - 1))))]) ⟨rfl, rfl, rfl, rfl, trivial⟩ ?_
        refine cw_drawQ 44 [PEq (.pointer (some ⟨g, 0, none⟩)), PEq (.pointer (some ⟨g, 0, none⟩)), PEq (.pointer (some ⟨g, 0, none⟩)), PV (RSlice RU8) M a_xs, PEq (.int .i64 (W ((W (a_pos + 1)) - 1))), PEq (.pointer (some ⟨g, 0, none⟩)), PEq (.pointer (some ⟨g, 0, none⟩)), PEq (.pointer (some ⟨g, 0, none⟩)), PV (RSlice RU8) M a_xs, PEq (.int .i64 (a_xs.length : Int)), PEq (.int .i64 (((W ((W (a_pos + 1)) - 1))).tmod (a_xs.length : Int))), PA RU8 M x2, PEq (.int .u8 x2), PEq (.int .i64 (W x2)), PEq (.int .i64 (W ((W x2) * 131))), PEq (.pointer (some ⟨g, 0, none⟩)), PEq (.pointer (some ⟨g, 0, none⟩)), PEq (.pointer (some ⟨g, 0, none⟩)), PV (RSlice RU8) M a_xs, PEq (.int .i64 (W ((W (a_pos + 1)) - 1))), PEq (.int .i64 (W ((W ((W (a_pos + 1)) - 1)) * 7))), PEq (.int .i64 (W ((W ((W ((W (a_pos + 1)) - 1)) * 7)) + 3))), PEq (.pointer (some ⟨g, 0, none⟩)), PEq (.pointer (some ⟨g, 0, none⟩)), PEq (.pointer (some ⟨g, 0, none⟩)), PV (RSlice RU8) M a_xs, PEq (.int .i64 (a_xs.length : Int)), PEq (.int .i64 (((W ((W ((W ((W (a_pos + 1)) - 1)) * 7)) + 3))).tmod (a_xs.length : Int))), PA RU8 M x3, PEq (.int .u8 x3), PEq (.int .i64 (W x3)), PEq (.int .i64 (W ((W x3) * 1117))), PEq (.int .i64 (W ((W ((W x2) * 131)) + (W ((W x3) * 1117))))), PEq (.int .i64 (W ((W (a_pos + 1)) - 1))), PEq (.int .i64 (W ((W ((W (a_pos + 1)) - 1)) * 29))), PEq (.int .i64 (W ((W ((W ((W x2) * 131)) + (W ((W x3) * 1117)))) + (W ((W ((W (a_pos + 1)) - 1)) * 29))))), PEq (.int .i64 (W ((W (a_pos + 1)) - 1))), PEq (.pointer (some ⟨g, 0, none⟩)), PEq (.pointer (some ⟨g, 0, none⟩)), PEq (.pointer (some ⟨g, 0, none⟩)), PV (RSlice RU8) M a_xs, PEq (.int .i64 (a_xs.length : Int)), PEq (.int .i64 (W (((W ((W (a_pos + 1)) - 1))).tdiv (a_xs.length : Int)))), PEq (.int .i64 (W ((W (((W ((W (a_pos + 1)) - 1))).tdiv (a_xs.length : Int))) * 53)))] (by kernel_rfl) rfl (by kernel_rfl) ⟨PEq.mono _, PEq.mono _, PEq.mono _, PV.mono _ _ _, PEq.mono _, PEq.mono _, PEq.mono _, PEq.mono _, PV.mono _ _ _, PEq.mono _, PEq.mono _, PA.mono _ _ _, PEq.mono _, PEq.mono _, PEq.mono _, PEq.mono _, PEq.mono _, PEq.mono _, PV.mono _ _ _, PEq.mono _, PEq.mono _, PEq.mono _, PEq.mono _, PEq.mono _, PEq.mono _, PV.mono _ _ _, PEq.mono _, PEq.mono _, PA.mono _ _ _, PEq.mono _, PEq.mono _, PEq.mono _, PEq.mono _, PEq.mono _, PEq.mono _, PEq.mono _, PEq.mono _, PEq.mono _, PEq.mono _, PEq.mono _, PV.mono _ _ _, PEq.mono _, PEq.mono _, PEq.mono _, trivial⟩ ⟨?_, ?_, ?_, ?_, ?_, ?_, ?_, ?_, ?_, ?_, ?_, ?_, ?_, ?_, ?_, ?_, ?_, ?_, ?_, ?_, ?_, ?_, ?_, ?_, ?_, ?_, ?_, ?_, ?_, ?_, ?_, ?_, ?_, ?_, ?_, ?_, ?_, ?_, ?_, ?_, ?_, ?_, ?_, ?_, trivial⟩ ?_
        · intro w2 D hS1 hd1
          have hl2 := Le.no M hS1
          have hC2 := hC1.no hS1
          have ho2 := ho1.no hS1
          refine dg_sub (E' := [(0, (.pointer (some ⟨g, 0, none⟩)))]) ⟨rfl, trivial⟩ ?_
          refine dg_plain rfl (ow_move rfl rfl ?_)
          exact ⟨BX.refl _ _, rfl⟩
        · intro w3 D hS2 hd2
          have hl3 := Le.no M hS2
          have hC3 := hC1.no hS2
          have ho3 := ho1.no hS2
          have hd2 : PEq (.pointer (some ⟨g, 0, none⟩)) (D 0) w3 ∧ True := hd2
          obtain ⟨d1, -⟩ := hd2
          refine dg_sub (E' := [(47, (.pointer (some ⟨g, 0, none⟩)))]) ⟨(congrArg some d1), trivial⟩ ?_
          refine dg_plain rfl (ow_nilCheck rfl rfl ?_)
          exact ⟨BX.refl _ _, rfl⟩
        · intro w4 D hS3 hd3
          have hl4 := Le.no M hS3
          have hC4 := hC1.no hS3
          have ho4 := ho1.no hS3
          have hd3 : PEq (.pointer (some ⟨g, 0, none⟩)) (D 1) w4 ∧ True := hd3
          obtain ⟨d2, -⟩ := hd3
          refine dg_sub (E' := [(48, (.pointer (some ⟨g, 0, none⟩)))]) ⟨(congrArg some d2), trivial⟩ ?_
          refine dg_plain rfl (ow_fieldAddr rfl rfl Tryd.underlying142 rfl (Tryd.sizeOf36 _) ?_)
          exact ⟨BX.refl _ _, rfl⟩
        · intro w5 D hS4 hd4
          have hl5 := Le.no M hS4
          have hC5 := hC1.no hS4
          have ho5 := ho1.no hS4
          have hd4 : PEq (.pointer (some ⟨g, 0, none⟩)) (D 2) w5 ∧ True := hd4
          obtain ⟨d3, -⟩ := hd4
          refine dg_sub (E' := [(49, (.pointer (some ⟨g, 0, none⟩)))]) ⟨(congrArg some d3), trivial⟩ ?_
          refine dg_plain rfl (ow_loadOwn1 rfl rfl rfl ho5 (Tryd.isAgg36 _) rfl ?_)
          exact ⟨BX.refl _ _, (VRep.mono (hl1.trans hl5) hxs)⟩
        · intro w6 D hS5 hd5
          have hl6 := Le.no M hS5
          have hC6 := hC1.no hS5
          have ho6 := ho1.no hS5
          refine dg_sub (E' := [(5, (.int .i64 (W ((W (a_pos + 1)) - 1))))]) ⟨rfl, trivial⟩ ?_
          refine dg_plain rfl (ow_move rfl rfl ?_)
          exact ⟨BX.refl _ _, rfl⟩
        · intro w7 D hS6 hd6
          have hl7 := Le.no M hS6
          have hC7 := hC1.no hS6
          have ho7 := ho1.no hS6
          refine dg_sub (E' := [(0, (.pointer (some ⟨g, 0, none⟩)))]) ⟨rfl, trivial⟩ ?_
          refine dg_plain rfl (ow_move rfl rfl ?_)
          exact ⟨BX.refl _ _, rfl⟩
        · intro w8 D hS7 hd7
          have hl8 := Le.no M hS7
          have hC8 := hC1.no hS7
          have ho8 := ho1.no hS7
          have hd7 : PEq (.pointer (some ⟨g, 0, none⟩)) (D 5) w8 ∧ True := hd7
          obtain ⟨d4, -⟩ := hd7
          refine dg_sub (E' := [(52, (.pointer (some ⟨g, 0, none⟩)))]) ⟨(congrArg some d4), trivial⟩ ?_
          refine dg_plain rfl (ow_nilCheck rfl rfl ?_)
          exact ⟨BX.refl _ _, rfl⟩
        · intro w9 D hS8 hd8
          have hl9 := Le.no M hS8
          have hC9 := hC1.no hS8
          have ho9 := ho1.no hS8
          have hd8 : PEq (.pointer (some ⟨g, 0, none⟩)) (D 6) w9 ∧ True := hd8
          obtain ⟨d5, -⟩ := hd8
          refine dg_sub (E' := [(53, (.pointer (some ⟨g, 0, none⟩)))]) ⟨(congrArg some d5), trivial⟩ ?_
          refine dg_plain rfl (ow_fieldAddr rfl rfl Tryd.underlying142 rfl (Tryd.sizeOf36 _) ?_)
          exact ⟨BX.refl _ _, rfl⟩
        · intro w10 D hS9 hd9
          have hl10 := Le.no M hS9
          have hC10 := hC1.no hS9
          have ho10 := ho1.no hS9
          have hd9 : PEq (.pointer (some ⟨g, 0, none⟩)) (D 7) w10 ∧ True := hd9
          obtain ⟨d6, -⟩ := hd9
          refine dg_sub (E' := [(54, (.pointer (some ⟨g, 0, none⟩)))]) ⟨(congrArg some d6), trivial⟩ ?_
          refine dg_plain rfl (ow_loadOwn1 rfl rfl rfl ho10 (Tryd.isAgg36 _) rfl ?_)
          exact ⟨BX.refl _ _, (VRep.mono (hl1.trans hl10) hxs)⟩
        · intro w11 D hS10 hd10
          have hl11 := Le.no M hS10
          have hC11 := hC1.no hS10
          have ho11 := ho1.no hS10
          have hd10 : PV (RSlice RU8) M a_xs (D 8) w11 ∧ True := hd10
          obtain ⟨d7, -⟩ := hd10
          obtain ⟨v4, hq1⟩ : ∃ v, (D 8) = v := ⟨_, rfl⟩
          rw [hq1] at d7
          refine dg_sub (E' := [(55, v4)]) ⟨(congrArg some hq1), trivial⟩ ?_
          refine dg_plain rfl (ow_len rfl rfl d7 Tryd.underlying36 rfl ?_)
          exact ⟨BX.refl _ _, rfl⟩
        · intro w12 D hS11 hd11
          have hl12 := Le.no M hS11
          have hC12 := hC1.no hS11
          have ho12 := ho1.no hS11
          have hd11 : PEq (.int .i64 (W ((W (a_pos + 1)) - 1))) (D 4) w12 ∧ PEq (.int .i64 (a_xs.length : Int)) (D 9) w12 ∧ True := hd11
          obtain ⟨d8, d9, -⟩ := hd11
          refine dg_sub (E' := [(51, (.int .i64 (W ((W (a_pos + 1)) - 1)))), (56, (.int .i64 (a_xs.length : Int)))]) ⟨(congrArg some d8), (congrArg some d9), trivial⟩ ?_
          refine dg_plain rfl (ow_rem rfl rfl rfl (nzF_some hu2) ?_)
          exact ⟨BX.refl _ _, rfl⟩
        · intro w13 D hS12 hd12
          have hl13 := Le.no M hS12
          have hC13 := hC1.no hS12
          have ho13 := ho1.no hS12
          have hd12 : PV (RSlice RU8) M a_xs (D 3) w13 ∧ PEq (.int .i64 (((W ((W (a_pos + 1)) - 1))).tmod (a_xs.length : Int))) (D 10) w13 ∧ True := hd12
          obtain ⟨d10, d11, -⟩ := hd12
          obtain ⟨v5, hq2⟩ : ∃ v, (D 3) = v := ⟨_, rfl⟩
          rw [hq2] at d10
          refine dg_sub (E' := [(50, v5), (57, (.int .i64 (((W ((W (a_pos + 1)) - 1))).tmod (a_xs.length : Int))))]) ⟨(congrArg some hq2), (congrArg some d11), trivial⟩ ?_
          refine dg_plain rfl (ow_indexSlice (R := RU8) rfl rfl rfl d10 Tryd.underlying36 (Tryd.sizeOf5 _) hx2 fun p4 hp4 => ?_)
          exact ⟨BX.refl _ _, ⟨_, rfl, hp4⟩⟩
        · intro w14 D hS13 hd13
          have hl14 := Le.no M hS13
          have hC14 := hC1.no hS13
          have ho14 := ho1.no hS13
          have hd13 : PA RU8 M x2 (D 11) w14 ∧ True := hd13
          obtain ⟨d12, -⟩ := hd13
          obtain ⟨p5, e1, ha1⟩ := d12
          refine dg_sub (E' := [(58, (.pointer (some p5)))]) ⟨(congrArg some e1), trivial⟩ ?_
          refine dg_plain rfl (ow_load (R := RU8) rfl rfl ha1 (Tryd.sizeOf5 _) (Tryd.isAgg5 _) fun v6 hv6 => ?_)
          obtain rfl := vu8_eq hv6
          exact ⟨BX.refl _ _, rfl⟩
        · intro w15 D hS14 hd14
          have hl15 := Le.no M hS14
          have hC15 := hC1.no hS14
          have ho15 := ho1.no hS14
          have hd14 : PEq (.int .u8 x2) (D 12) w15 ∧ True := hd14
          obtain ⟨d13, -⟩ := hd14
          refine dg_sub (E' := [(59, (.int .u8 x2))]) ⟨(congrArg some d13), trivial⟩ ?_
          refine dg_plain rfl (ow_u8int rfl rfl (by kernel_rfl) ?_)
          exact ⟨BX.refl _ _, rfl⟩
        · intro w16 D hS15 hd15
          have hl16 := Le.no M hS15
          have hC16 := hC1.no hS15
          have ho16 := ho1.no hS15
          have hd15 : PEq (.int .i64 (W x2)) (D 13) w16 ∧ True := hd15
          obtain ⟨d14, -⟩ := hd15
          refine dg_sub (E' := [(60, (.int .i64 (W x2)))]) ⟨(congrArg some d14), trivial⟩ ?_
          refine dg_plain rfl (ow_mul rfl rfl rfl ?_)
          exact ⟨BX.refl _ _, rfl⟩
        · intro w17 D hS16 hd16
          have hl17 := Le.no M hS16
          have hC17 := hC1.no hS16
          have ho17 := ho1.no hS16
          refine dg_sub (E' := [(0, (.pointer (some ⟨g, 0, none⟩)))]) ⟨rfl, trivial⟩ ?_
          refine dg_plain rfl (ow_move rfl rfl ?_)
          exact ⟨BX.refl _ _, rfl⟩
        · intro w18 D hS17 hd17
          have hl18 := Le.no M hS17
          have hC18 := hC1.no hS17
          have ho18 := ho1.no hS17
          have hd17 : PEq (.pointer (some ⟨g, 0, none⟩)) (D 15) w18 ∧ True := hd17
          obtain ⟨d15, -⟩ := hd17
          refine dg_sub (E' := [(62, (.pointer (some ⟨g, 0, none⟩)))]) ⟨(congrArg some d15), trivial⟩ ?_
          refine dg_plain rfl (ow_nilCheck rfl rfl ?_)
          exact ⟨BX.refl _ _, rfl⟩
        · intro w19 D hS18 hd18
          have hl19 := Le.no M hS18
          have hC19 := hC1.no hS18
          have ho19 := ho1.no hS18
          have hd18 : PEq (.pointer (some ⟨g, 0, none⟩)) (D 16) w19 ∧ True := hd18
          obtain ⟨d16, -⟩ := hd18
          refine dg_sub (E' := [(63, (.pointer (some ⟨g, 0, none⟩)))]) ⟨(congrArg some d16), trivial⟩ ?_
          refine dg_plain rfl (ow_fieldAddr rfl rfl Tryd.underlying142 rfl (Tryd.sizeOf36 _) ?_)
          exact ⟨BX.refl _ _, rfl⟩
        · intro w20 D hS19 hd19
          have hl20 := Le.no M hS19
          have hC20 := hC1.no hS19
          have ho20 := ho1.no hS19
          have hd19 : PEq (.pointer (some ⟨g, 0, none⟩)) (D 17) w20 ∧ True := hd19
          obtain ⟨d17, -⟩ := hd19
          refine dg_sub (E' := [(64, (.pointer (some ⟨g, 0, none⟩)))]) ⟨(congrArg some d17), trivial⟩ ?_
          refine dg_plain rfl (ow_loadOwn1 rfl rfl rfl ho20 (Tryd.isAgg36 _) rfl ?_)
          exact ⟨BX.refl _ _, (VRep.mono (hl1.trans hl20) hxs)⟩
        · intro w21 D hS20 hd20
          have hl21 := Le.no M hS20
          have hC21 := hC1.no hS20
          have ho21 := ho1.no hS20
          refine dg_sub (E' := [(5, (.int .i64 (W ((W (a_pos + 1)) - 1))))]) ⟨rfl, trivial⟩ ?_
          refine dg_plain rfl (ow_move rfl rfl ?_)
          exact ⟨BX.refl _ _, rfl⟩
        · intro w22 D hS21 hd21
          have hl22 := Le.no M hS21
          have hC22 := hC1.no hS21
          have ho22 := ho1.no hS21
          have hd21 : PEq (.int .i64 (W ((W (a_pos + 1)) - 1))) (D 19) w22 ∧ True := hd21
          obtain ⟨d18, -⟩ := hd21
          refine dg_sub (E' := [(66, (.int .i64 (W ((W (a_pos + 1)) - 1))))]) ⟨(congrArg some d18), trivial⟩ ?_
          refine dg_plain rfl (ow_mul rfl rfl rfl ?_)
          exact ⟨BX.refl _ _, rfl⟩
        · intro w23 D hS22 hd22
          have hl23 := Le.no M hS22
          have hC23 := hC1.no hS22
          have ho23 := ho1.no hS22
          have hd22 : PEq (.int .i64 (W ((W ((W (a_pos + 1)) - 1)) * 7))) (D 20) w23 ∧ True := hd22
          obtain ⟨d19, -⟩ := hd22
          refine dg_sub (E' := [(67, (.int .i64 (W ((W ((W (a_pos + 1)) - 1)) * 7))))]) ⟨(congrArg some d19), trivial⟩ ?_
          refine dg_plain rfl (ow_add rfl rfl rfl ?_)
          exact ⟨BX.refl _ _, rfl⟩
        · intro w24 D hS23 hd23
          have hl24 := Le.no M hS23
          have hC24 := hC1.no hS23
          have ho24 := ho1.no hS23
          refine dg_sub (E' := [(0, (.pointer (some ⟨g, 0, none⟩)))]) ⟨rfl, trivial⟩ ?_
          refine dg_plain rfl (ow_move rfl rfl ?_)
          exact ⟨BX.refl _ _, rfl⟩
        · intro w25 D hS24 hd24
          have hl25 := Le.no M hS24
          have hC25 := hC1.no hS24
          have ho25 := ho1.no hS24
          have hd24 : PEq (.pointer (some ⟨g, 0, none⟩)) (D 22) w25 ∧ True := hd24
          obtain ⟨d20, -⟩ := hd24
          refine dg_sub (E' := [(69, (.pointer (some ⟨g, 0, none⟩)))]) ⟨(congrArg some d20), trivial⟩ ?_
          refine dg_plain rfl (ow_nilCheck rfl rfl ?_)
          exact ⟨BX.refl _ _, rfl⟩
        · intro w26 D hS25 hd25
          have hl26 := Le.no M hS25
          have hC26 := hC1.no hS25
          have ho26 := ho1.no hS25
          have hd25 : PEq (.pointer (some ⟨g, 0, none⟩)) (D 23) w26 ∧ True := hd25
          obtain ⟨d21, -⟩ := hd25
          refine dg_sub (E' := [(70, (.pointer (some ⟨g, 0, none⟩)))]) ⟨(congrArg some d21), trivial⟩ ?_
          refine dg_plain rfl (ow_fieldAddr rfl rfl Tryd.underlying142 rfl (Tryd.sizeOf36 _) ?_)
          exact ⟨BX.refl _ _, rfl⟩
        · intro w27 D hS26 hd26
          have hl27 := Le.no M hS26
          have hC27 := hC1.no hS26
          have ho27 := ho1.no hS26
          have hd26 : PEq (.pointer (some ⟨g, 0, none⟩)) (D 24) w27 ∧ True := hd26
          obtain ⟨d22, -⟩ := hd26
          refine dg_sub (E' := [(71, (.pointer (some ⟨g, 0, none⟩)))]) ⟨(congrArg some d22), trivial⟩ ?_
          refine dg_plain rfl (ow_loadOwn1 rfl rfl rfl ho27 (Tryd.isAgg36 _) rfl ?_)
          exact ⟨BX.refl _ _, (VRep.mono (hl1.trans hl27) hxs)⟩
        · intro w28 D hS27 hd27
          have hl28 := Le.no M hS27
          have hC28 := hC1.no hS27
          have ho28 := ho1.no hS27
          have hd27 : PV (RSlice RU8) M a_xs (D 25) w28 ∧ True := hd27
          obtain ⟨d23, -⟩ := hd27
          obtain ⟨v7, hq3⟩ : ∃ v, (D 25) = v := ⟨_, rfl⟩
          rw [hq3] at d23
          refine dg_sub (E' := [(72, v7)]) ⟨(congrArg some hq3), trivial⟩ ?_
          refine dg_plain rfl (ow_len rfl rfl d23 Tryd.underlying36 rfl ?_)
          exact ⟨BX.refl _ _, rfl⟩
        · intro w29 D hS28 hd28
          have hl29 := Le.no M hS28
          have hC29 := hC1.no hS28
          have ho29 := ho1.no hS28
          have hd28 : PEq (.int .i64 (W ((W ((W ((W (a_pos + 1)) - 1)) * 7)) + 3))) (D 21) w29 ∧ PEq (.int .i64 (a_xs.length : Int)) (D 26) w29 ∧ True := hd28
          obtain ⟨d24, d25, -⟩ := hd28
          refine dg_sub (E' := [(68, (.int .i64 (W ((W ((W ((W (a_pos + 1)) - 1)) * 7)) + 3)))), (73, (.int .i64 (a_xs.length : Int)))]) ⟨(congrArg some d24), (congrArg some d25), trivial⟩ ?_
          refine dg_plain rfl (ow_rem rfl rfl rfl (nzF_some hu2) ?_)
          exact ⟨BX.refl _ _, rfl⟩
        · intro w30 D hS29 hd29
          have hl30 := Le.no M hS29
          have hC30 := hC1.no hS29
          have ho30 := ho1.no hS29
          have hd29 : PV (RSlice RU8) M a_xs (D 18) w30 ∧ PEq (.int .i64 (((W ((W ((W ((W (a_pos + 1)) - 1)) * 7)) + 3))).tmod (a_xs.length : Int))) (D 27) w30 ∧ True := hd29
          obtain ⟨d26, d27, -⟩ := hd29
          obtain ⟨v8, hq4⟩ : ∃ v, (D 18) = v := ⟨_, rfl⟩
          rw [hq4] at d26
          refine dg_sub (E' := [(65, v8), (74, (.int .i64 (((W ((W ((W ((W (a_pos + 1)) - 1)) * 7)) + 3))).tmod (a_xs.length : Int))))]) ⟨(congrArg some hq4), (congrArg some d27), trivial⟩ ?_
          refine dg_plain rfl (ow_indexSlice (R := RU8) rfl rfl rfl d26 Tryd.underlying36 (Tryd.sizeOf5 _) hx3 fun p6 hp6 => ?_)
          exact ⟨BX.refl _ _, ⟨_, rfl, hp6⟩⟩
        · intro w31 D hS30 hd30
          have hl31 := Le.no M hS30
          have hC31 := hC1.no hS30
          have ho31 := ho1.no hS30
          have hd30 : PA RU8 M x3 (D 28) w31 ∧ True := hd30
          obtain ⟨d28, -⟩ := hd30
          obtain ⟨p7, e2, ha2⟩ := d28
          refine dg_sub (E' := [(75, (.pointer (some p7)))]) ⟨(congrArg some e2), trivial⟩ ?_
          refine dg_plain rfl (ow_load (R := RU8) rfl rfl ha2 (Tryd.sizeOf5 _) (Tryd.isAgg5 _) fun v9 hv9 => ?_)
          obtain rfl := vu8_eq hv9
          exact ⟨BX.refl _ _, rfl⟩
        · intro w32 D hS31 hd31
          have hl32 := Le.no M hS31
          have hC32 := hC1.no hS31
          have ho32 := ho1.no hS31
          have hd31 : PEq (.int .u8 x3) (D 29) w32 ∧ True := hd31
          obtain ⟨d29, -⟩ := hd31
          refine dg_sub (E' := [(76, (.int .u8 x3))]) ⟨(congrArg some d29), trivial⟩ ?_
          refine dg_plain rfl (ow_u8int rfl rfl (by kernel_rfl) ?_)
          exact ⟨BX.refl _ _, rfl⟩
        · intro w33 D hS32 hd32
          have hl33 := Le.no M hS32
          have hC33 := hC1.no hS32
          have ho33 := ho1.no hS32
          have hd32 : PEq (.int .i64 (W x3)) (D 30) w33 ∧ True := hd32
          obtain ⟨d30, -⟩ := hd32
          refine dg_sub (E' := [(77, (.int .i64 (W x3)))]) ⟨(congrArg some d30), trivial⟩ ?_
          refine dg_plain rfl (ow_mul rfl rfl rfl ?_)
          exact ⟨BX.refl _ _, rfl⟩
        · intro w34 D hS33 hd33
          have hl34 := Le.no M hS33
          have hC34 := hC1.no hS33
          have ho34 := ho1.no hS33
          have hd33 : PEq (.int .i64 (W ((W x2) * 131))) (D 14) w34 ∧ PEq (.int .i64 (W ((W x3) * 1117))) (D 31) w34 ∧ True := hd33
          obtain ⟨d31, d32, -⟩ := hd33
          refine dg_sub (E' := [(61, (.int .i64 (W ((W x2) * 131)))), (78, (.int .i64 (W ((W x3) * 1117))))]) ⟨(congrArg some d31), (congrArg some d32), trivial⟩ ?_
          refine dg_plain rfl (ow_add rfl rfl rfl ?_)
          exact ⟨BX.refl _ _, rfl⟩
        · intro w35 D hS34 hd34
          have hl35 := Le.no M hS34
          have hC35 := hC1.no hS34
          have ho35 := ho1.no hS34
          refine dg_sub (E' := [(5, (.int .i64 (W ((W (a_pos + 1)) - 1))))]) ⟨rfl, trivial⟩ ?_
          refine dg_plain rfl (ow_move rfl rfl ?_)
          exact ⟨BX.refl _ _, rfl⟩
        · intro w36 D hS35 hd35
          have hl36 := Le.no M hS35
          have hC36 := hC1.no hS35
          have ho36 := ho1.no hS35
          have hd35 : PEq (.int .i64 (W ((W (a_pos + 1)) - 1))) (D 33) w36 ∧ True := hd35
          obtain ⟨d33, -⟩ := hd35
          refine dg_sub (E' := [(80, (.int .i64 (W ((W (a_pos + 1)) - 1))))]) ⟨(congrArg some d33), trivial⟩ ?_
          refine dg_plain rfl (ow_mul rfl rfl rfl ?_)
          exact ⟨BX.refl _ _, rfl⟩
        · intro w37 D hS36 hd36
          have hl37 := Le.no M hS36
          have hC37 := hC1.no hS36
          have ho37 := ho1.no hS36
          have hd36 : PEq (.int .i64 (W ((W ((W x2) * 131)) + (W ((W x3) * 1117))))) (D 32) w37 ∧ PEq (.int .i64 (W ((W ((W (a_pos + 1)) - 1)) * 29))) (D 34) w37 ∧ True := hd36
          obtain ⟨d34, d35, -⟩ := hd36
          refine dg_sub (E' := [(79, (.int .i64 (W ((W ((W x2) * 131)) + (W ((W x3) * 1117)))))), (81, (.int .i64 (W ((W ((W (a_pos + 1)) - 1)) * 29))))]) ⟨(congrArg some d34), (congrArg some d35), trivial⟩ ?_
          refine dg_plain rfl (ow_add rfl rfl rfl ?_)
          exact ⟨BX.refl _ _, rfl⟩
        · intro w38 D hS37 hd37
          have hl38 := Le.no M hS37
          have hC38 := hC1.no hS37
          have ho38 := ho1.no hS37
          refine dg_sub (E' := [(5, (.int .i64 (W ((W (a_pos + 1)) - 1))))]) ⟨rfl, trivial⟩ ?_
          refine dg_plain rfl (ow_move rfl rfl ?_)
          exact ⟨BX.refl _ _, rfl⟩
        · intro w39 D hS38 hd38
          have hl39 := Le.no M hS38
          have hC39 := hC1.no hS38
          have ho39 := ho1.no hS38
          refine dg_sub (E' := [(0, (.pointer (some ⟨g, 0, none⟩)))]) ⟨rfl, trivial⟩ ?_
          refine dg_plain rfl (ow_move rfl rfl ?_)
          exact ⟨BX.refl _ _, rfl⟩
        · intro w40 D hS39 hd39
          have hl40 := Le.no M hS39
          have hC40 := hC1.no hS39
          have ho40 := ho1.no hS39
          have hd39 : PEq (.pointer (some ⟨g, 0, none⟩)) (D 37) w40 ∧ True := hd39
          obtain ⟨d36, -⟩ := hd39
          refine dg_sub (E' := [(84, (.pointer (some ⟨g, 0, none⟩)))]) ⟨(congrArg some d36), trivial⟩ ?_
          refine dg_plain rfl (ow_nilCheck rfl rfl ?_)
          exact ⟨BX.refl _ _, rfl⟩
        · intro w41 D hS40 hd40
          have hl41 := Le.no M hS40
          have hC41 := hC1.no hS40
          have ho41 := ho1.no hS40
          have hd40 : PEq (.pointer (some ⟨g, 0, none⟩)) (D 38) w41 ∧ True := hd40
          obtain ⟨d37, -⟩ := hd40
          refine dg_sub (E' := [(85, (.pointer (some ⟨g, 0, none⟩)))]) ⟨(congrArg some d37), trivial⟩ ?_
          refine dg_plain rfl (ow_fieldAddr rfl rfl Tryd.underlying142 rfl (Tryd.sizeOf36 _) ?_)
          exact ⟨BX.refl _ _, rfl⟩
        · intro w42 D hS41 hd41
          have hl42 := Le.no M hS41
          have hC42 := hC1.no hS41
          have ho42 := ho1.no hS41
          have hd41 : PEq (.pointer (some ⟨g, 0, none⟩)) (D 39) w42 ∧ True := hd41
          obtain ⟨d38, -⟩ := hd41
          refine dg_sub (E' := [(86, (.pointer (some ⟨g, 0, none⟩)))]) ⟨(congrArg some d38), trivial⟩ ?_
          refine dg_plain rfl (ow_loadOwn1 rfl rfl rfl ho42 (Tryd.isAgg36 _) rfl ?_)
          exact ⟨BX.refl _ _, (VRep.mono (hl1.trans hl42) hxs)⟩
        · intro w43 D hS42 hd42
          have hl43 := Le.no M hS42
          have hC43 := hC1.no hS42
          have ho43 := ho1.no hS42
          have hd42 : PV (RSlice RU8) M a_xs (D 40) w43 ∧ True := hd42
          obtain ⟨d39, -⟩ := hd42
          obtain ⟨v10, hq5⟩ : ∃ v, (D 40) = v := ⟨_, rfl⟩
          rw [hq5] at d39
          refine dg_sub (E' := [(87, v10)]) ⟨(congrArg some hq5), trivial⟩ ?_
          refine dg_plain rfl (ow_len rfl rfl d39 Tryd.underlying36 rfl ?_)
          exact ⟨BX.refl _ _, rfl⟩
        · intro w44 D hS43 hd43
          have hl44 := Le.no M hS43
          have hC44 := hC1.no hS43
          have ho44 := ho1.no hS43
          have hd43 : PEq (.int .i64 (W ((W (a_pos + 1)) - 1))) (D 36) w44 ∧ PEq (.int .i64 (a_xs.length : Int)) (D 41) w44 ∧ True := hd43
          obtain ⟨d40, d41, -⟩ := hd43
          refine dg_sub (E' := [(83, (.int .i64 (W ((W (a_pos + 1)) - 1)))), (88, (.int .i64 (a_xs.length : Int)))]) ⟨(congrArg some d40), (congrArg some d41), trivial⟩ ?_
          refine dg_plain rfl (ow_quo rfl rfl rfl (nzF_some hu2) ?_)
          exact ⟨BX.refl _ _, rfl⟩
        · intro w45 D hS44 hd44
          have hl45 := Le.no M hS44
          have hC45 := hC1.no hS44
          have ho45 := ho1.no hS44
          have hd44 : PEq (.int .i64 (W (((W ((W (a_pos + 1)) - 1))).tdiv (a_xs.length : Int)))) (D 42) w45 ∧ True := hd44
          obtain ⟨d42, -⟩ := hd44
          refine dg_sub (E' := [(89, (.int .i64 (W (((W ((W (a_pos + 1)) - 1))).tdiv (a_xs.length : Int)))))]) ⟨(congrArg some d42), trivial⟩ ?_
          refine dg_plain rfl (ow_mul rfl rfl rfl ?_)
          exact ⟨BX.refl _ _, rfl⟩
        · intro w46 D hS45 hd45
          have hl46 := Le.no M hS45
          have hC46 := hC1.no hS45
          have ho46 := ho1.no hS45
          have hd45 : PEq (.pointer (some ⟨g, 0, none⟩)) (D 0) w46 ∧ PEq (.pointer (some ⟨g, 0, none⟩)) (D 1) w46 ∧ PEq (.pointer (some ⟨g, 0, none⟩)) (D 2) w46 ∧ PV (RSlice RU8) M a_xs (D 3) w46 ∧ PEq (.int .i64 (W ((W (a_pos + 1)) - 1))) (D 4) w46 ∧ PEq (.pointer (some ⟨g, 0, none⟩)) (D 5) w46 ∧ PEq (.pointer (some ⟨g, 0, none⟩)) (D 6) w46 ∧ PEq (.pointer (some ⟨g, 0, none⟩)) (D 7) w46 ∧ PV (RSlice RU8) M a_xs (D 8) w46 ∧ PEq (.int .i64 (a_xs.length : Int)) (D 9) w46 ∧ PEq (.int .i64 (((W ((W (a_pos + 1)) - 1))).tmod (a_xs.length : Int))) (D 10) w46 ∧ PA RU8 M x2 (D 11) w46 ∧ PEq (.int .u8 x2) (D 12) w46 ∧ PEq (.int .i64 (W x2)) (D 13) w46 ∧ PEq (.int .i64 (W ((W x2) * 131))) (D 14) w46 ∧ PEq (.pointer (some ⟨g, 0, none⟩)) (D 15) w46 ∧ PEq (.pointer (some ⟨g, 0, none⟩)) (D 16) w46 ∧ PEq (.pointer (some ⟨g, 0, none⟩)) (D 17) w46 ∧ PV (RSlice RU8) M a_xs (D 18) w46 ∧ PEq (.int .i64 (W ((W (a_pos + 1)) - 1))) (D 19) w46 ∧ PEq (.int .i64 (W ((W ((W (a_pos + 1)) - 1)) * 7))) (D 20) w46 ∧ PEq (.int .i64 (W ((W ((W ((W (a_pos + 1)) - 1)) * 7)) + 3))) (D 21) w46 ∧ PEq (.pointer (some ⟨g, 0, none⟩)) (D 22) w46 ∧ PEq (.pointer (some ⟨g, 0, none⟩)) (D 23) w46 ∧ PEq (.pointer (some ⟨g, 0, none⟩)) (D 24) w46 ∧ PV (RSlice RU8) M a_xs (D 25) w46 ∧ PEq (.int .i64 (a_xs.length : Int)) (D 26) w46 ∧ PEq (.int .i64 (((W ((W ((W ((W (a_pos + 1)) - 1)) * 7)) + 3))).tmod (a_xs.length : Int))) (D 27) w46 ∧ PA RU8 M x3 (D 28) w46 ∧ PEq (.int .u8 x3) (D 29) w46 ∧ PEq (.int .i64 (W x3)) (D 30) w46 ∧ PEq (.int .i64 (W ((W x3) * 1117))) (D 31) w46 ∧ PEq (.int .i64 (W ((W ((W x2) * 131)) + (W ((W x3) * 1117))))) (D 32) w46 ∧ PEq (.int .i64 (W ((W (a_pos + 1)) - 1))) (D 33) w46 ∧ PEq (.int .i64 (W ((W ((W (a_pos + 1)) - 1)) * 29))) (D 34) w46 ∧ PEq (.int .i64 (W ((W ((W ((W x2) * 131)) + (W ((W x3) * 1117)))) + (W ((W ((W (a_pos + 1)) - 1)) * 29))))) (D 35) w46 ∧ PEq (.int .i64 (W ((W (a_pos + 1)) - 1))) (D 36) w46 ∧ PEq (.pointer (some ⟨g, 0, none⟩)) (D 37) w46 ∧ PEq (.pointer (some ⟨g, 0, none⟩)) (D 38) w46 ∧ PEq (.pointer (some ⟨g, 0, none⟩)) (D 39) w46 ∧ PV (RSlice RU8) M a_xs (D 40) w46 ∧ PEq (.int .i64 (a_xs.length : Int)) (D 41) w46 ∧ PEq (.int .i64 (W (((W ((W (a_pos + 1)) - 1))).tdiv (a_xs.length : Int)))) (D 42) w46 ∧ PEq (.int .i64 (W ((W (((W ((W (a_pos + 1)) - 1))).tdiv (a_xs.length : Int))) * 53))) (D 43) w46 ∧ True := hd45
          obtain ⟨-, -, -, -, -, -, -, -, -, -, -, -, -, -, -, -, -, -, -, -, -, -, -, -, -, -, -, -, -, -, -, -, -, -, -, d78, -, -, -, -, -, -, -, d86, -⟩ := hd45
          refine lw_sub (E' := [(82, (.int .i64 (W ((W ((W ((W x2) * 131)) + (W ((W x3) * 1117)))) + (W ((W ((W (a_pos + 1)) - 1)) * 29)))))), (90, (.int .i64 (W ((W (((W ((W (a_pos + 1)) - 1))).tdiv (a_xs.length : Int))) * 53)))), (0, (.pointer (some ⟨g, 0, none⟩))), (1, (.int .i64 a_n)), (4, (.int .i64 0)), (5, (.int .i64 (W ((W (a_pos + 1)) - 1))))]) ⟨(congrArg some d78), (congrArg some d86), rfl, rfl, rfl, rfl, trivial⟩ ?_
          refine lw_op rfl rfl rfl (ow_add rfl rfl rfl ?_)
          refine lw_op rfl rfl rfl (ow_assign rfl rfl ?_)
          refine lw_nil ?_
          refine ew_then ?_
          refine cw_seq ?_
          refine cw_region ?_
          refine lw_op rfl rfl rfl (ow_move rfl rfl ?_)
          refine lw_op rfl rfl rfl (ow_move rfl rfl ?_)
          refine lw_op rfl rfl rfl (ow_quo rfl rfl rfl (by decide) ?_)
          refine lw_op rfl rfl rfl (ow_xor rfl rfl rfl ?_)
          refine lw_op rfl rfl rfl (ow_assign rfl rfl ?_)
          refine lw_nil ?_
          refine ew_then ?_
          refine cw_seq ?_
          refine cw_region ?_
          refine lw_op rfl rfl rfl (ow_move rfl rfl ?_)
          refine lw_op rfl rfl rfl (ow_move rfl rfl ?_)
          replace h := bind_some h
          obtain ⟨u3, hu3, h⟩ := h
          refine lw_op rfl rfl rfl (ow_rem rfl rfl rfl (nzF_some hu3) ?_)
          refine lw_op rfl rfl rfl (ow_assign rfl rfl ?_)
          refine lw_nil ?_
          refine ew_then ?_
          refine cw_ret ?_
          obtain rfl := Option.some.inj h
          exact ew_ret (res1 rfl (.tmp rfl)) ⟨_, rfl, ⟨((vint _)), ho46⟩, hC46.bx⟩

theorem w_spec_l20Rd_odd {w : World} {M : Nat → Prop} (hG : ARep (RArr 4 RShape) w M shapes ⟨0, 0, none⟩) (hO : ∀ b, M b → b < w.heap.size) {g : Nat} {Ax : Option Addr} {cx : Nat} {a_xs : List Int} {a_pos : Int} (hxs : VRep (RSlice RU8) w M a_xs (.slice Ax a_xs.length cx)) (hown : Own w g 142 #[.slice Ax a_xs.length cx, .int .i64 a_pos]) (hgM : M g) {a_n : Int} {r : Bool × Int} (h : F.spec_l20Rd_odd a_xs a_pos a_n = some r) :
    Calls Tryd.prog 115 [(.pointer (some ⟨g, 0, none⟩)), (.int .i64 a_n)].toArray w fun e w' => ∃ v, e = .returned v ∧ (VRep RBool w' M r.1 v ∧ Own w' g 142 #[.slice Ax a_xs.length cx, .int .i64 r.2]) ∧ BX (One g) w w' := by
  have hX : ∀ b, (One g) b → M b := fun b e => e ▸ hgM
  have hC : Cx (One g) w M w M := Cx.start hO hX
  refine walk (N := 15) Tryd.func115 rfl Tryd.ntmps115 rfl ?_
  refine cw_seq ?_
  refine cw_region ?_
  refine lw_op rfl rfl rfl (ow_assign rfl rfl ?_)
  refine lw_nil ?_
  refine ew_then ?_
  refine cw_seq ?_
  refine cw_region ?_
  refine lw_op rfl rfl rfl (ow_move rfl rfl ?_)
  refine lw_op rfl rfl rfl (ow_gtr rfl rfl rfl fun bb1 hbb1 => ?_)
  refine lw_op rfl rfl rfl (ow_move rfl rfl ?_)
  replace h := cond_some h
  rcases h with ⟨hc1, h⟩ | ⟨hc1, h⟩
  · obtain rfl := hbb1.trans hc1
    refine lw_on rfl rfl rfl rfl rfl rfl (ow_move rfl rfl ?_)
    refine lw_on rfl rfl rfl rfl rfl rfl (ow_move rfl rfl ?_)
    replace h := bind_some h
    obtain ⟨x1, hx1, h⟩ := h
    refine lw_on rfl rfl rfl rfl rfl rfl (ow_call rfl rfl Tryd.call114 (w_spec_l20Rd_pick hG hC.old hxs hown hgM hx1) fun v1 w1 hv1 => ?_)
    obtain ⟨⟨hv1, ho1⟩, hb1⟩ := hv1
    have hl1 := Le.of_bx M hb1 (fun b e => (by rw [show b = g from e]; exact hgM))
    have hC1 := hC.go hb1 (fun b e => Or.inr e)
    obtain rfl := vint_eq hv1
    refine lw_on rfl rfl rfl rfl rfl rfl (ow_move rfl rfl ?_)
    refine lw_on rfl rfl rfl rfl rfl rfl (ow_sub rfl rfl rfl ?_)
    refine lw_on rfl rfl rfl rfl rfl rfl (ow_eqlI rfl rfl rfl fun bb2 hbb2 => ?_)
    refine lw_op rfl rfl rfl (ow_pickT rfl rfl rfl ?_)
    refine lw_op rfl rfl rfl (ow_assign rfl rfl ?_)
    refine lw_nil ?_
    refine ew_then ?_
    refine cw_ret ?_
    obtain rfl := Option.some.inj h
    exact ew_ret (res1 rfl (.tmp rfl)) ⟨_, rfl, ⟨((vbool_of hbb2)), ho1⟩, hC1.bx⟩
  · obtain rfl := hbb1.trans hc1
    refine lw_off rfl rfl rfl rfl rfl rfl ?_
    refine lw_off rfl rfl rfl rfl rfl rfl ?_
    refine lw_off rfl rfl rfl rfl rfl rfl ?_
    refine lw_off rfl rfl rfl rfl rfl rfl ?_
    refine lw_off rfl rfl rfl rfl rfl rfl ?_
    refine lw_off rfl rfl rfl rfl rfl rfl ?_
    refine lw_op rfl rfl rfl (ow_pickF rfl rfl rfl ?_)
    refine lw_op rfl rfl rfl (ow_assign rfl rfl ?_)
    refine lw_nil ?_
    refine ew_then ?_
    refine cw_ret ?_
    obtain rfl := Option.some.inj h
    exact ew_ret (res1 rfl (.tmp rfl)) ⟨_, rfl, ⟨((vbool _)), hown⟩, hC.bx⟩

theorem w_spec_l20Packet {w : World} {M : Nat → Prop} (hG : ARep (RArr 4 RShape) w M shapes ⟨0, 0, none⟩) (hO : ∀ b, M b → b < w.heap.size) {g : Nat} {Ax : Option Addr} {cx : Nat} {a_xs : List Int} {a_pos : Int} (hxs : VRep (RSlice RU8) w M a_xs (.slice Ax a_xs.length cx)) (hown : Own w g 142 #[.slice Ax a_xs.length cx, .int .i64 a_pos]) (hgM : M g) {a_n : Int} {r : Packet × Int} (h : F.spec_l20Packet a_xs a_pos a_n = some r) :
    Calls Tryd.prog 80 [(.pointer (some ⟨g, 0, none⟩)), (.int .i64 a_n)].toArray w fun e w' => ∃ v, e = .returned v ∧ (VRep RPacket w' M r.1 v ∧ Own w' g 142 #[.slice Ax a_xs.length cx, .int .i64 r.2]) ∧ BX (One g) w w' := by
  have hX : ∀ b, (One g) b → M b := fun b e => e ▸ hgM
  have hC : Cx (One g) w M w M := Cx.start hO hX
  refine walk (N := 71) Tryd.func80 rfl Tryd.ntmps80 rfl ?_
  refine cw_seq ?_
  refine cw_region ?_
  refine lw_op rfl rfl rfl (ow_alloc rfl (Tryd.zeroValue38 _) hC fun g1 w1 hg1 hg2 ho1 hb1 hl1 hC1 => ?_)
  have hn1 := Nat.ne_of_lt (Nat.lt_of_lt_of_le hown.lt hg1)
  have ho2 := hown.no hb1
  have hm1 : (Add g1 M) g := .inr hgM
  have hm2 : (Add g1 M) g1 := .inl rfl
  refine lw_nil ?_
  refine ew_then ?_
  refine cw_seq ?_
  refine cw_region ?_
  refine lw_op rfl rfl rfl (ow_move rfl rfl ?_)
  replace h := bind_some h
  obtain ⟨x1, hx1, h⟩ := h
  refine lw_op rfl rfl rfl (ow_call rfl rfl Tryd.call114 (w_spec_l20Rd_pick (hG.mono hl1) hC1.old (VRep.mono hl1 hxs) ho2 hm1 hx1) fun v1 w2 hv1 => ?_)
  obtain ⟨⟨hv1, ho3⟩, hb2⟩ := hv1
  have hl2 := Le.of_bx (Add g1 M) hb2 (fun b e => (by rw [show b = g from e]; exact hm1))
  have hC2 := hC1.go hb2 (fun b e => Or.inr e)
  have ho4 := ho1.go hb2 (fun e => hn1 e.symm)
  obtain rfl := vint_eq hv1
  refine lw_op rfl rfl rfl (ow_move rfl rfl ?_)
  replace h := bind_some h
  obtain ⟨x2, hx2, h⟩ := h
  refine lw_op rfl rfl rfl (ow_call rfl rfl Tryd.call114 (w_spec_l20Rd_pick (hG.mono (hl1.trans hl2)) hC2.old (VRep.mono (hl1.trans hl2) hxs) ho3 hm1 hx2) fun v2 w3 hv2 => ?_)
  obtain ⟨⟨hv2, ho5⟩, hb3⟩ := hv2
  have hl3 := Le.of_bx (Add g1 M) hb3 (fun b e => (by rw [show b = g from e]; exact hm1))
  have hC3 := hC2.go hb3 (fun b e => Or.inr e)
  have ho6 := ho4.go hb3 (fun e => hn1 e.symm)
  obtain rfl := vint_eq hv2
  refine lw_op rfl rfl rfl (ow_move rfl rfl ?_)
  replace h := bind_some h
  obtain ⟨x3, hx3, h⟩ := h
  refine lw_op rfl rfl rfl (ow_call rfl rfl Tryd.call114 (w_spec_l20Rd_pick (hG.mono ((hl1.trans hl2).trans hl3)) hC3.old (VRep.mono ((hl1.trans hl2).trans hl3) hxs) ho5 hm1 hx3) fun v3 w4 hv3 => ?_)
  obtain ⟨⟨hv3, ho7⟩, hb4⟩ := hv3
  have hl4 := Le.of_bx (Add g1 M) hb4 (fun b e => (by rw [show b = g from e]; exact hm1))
  have hC4 := hC3.go hb4 (fun b e => Or.inr e)
  have ho8 := ho6.go hb4 (fun e => hn1 e.symm)
  obtain rfl := vint_eq hv3
  refine lw_op rfl rfl rfl (ow_move rfl rfl ?_)
  replace h := bind_some h
  obtain ⟨x4, hx4, h⟩ := h
  refine lw_op rfl rfl rfl (ow_call rfl rfl Tryd.call114 (w_spec_l20Rd_pick (hG.mono (((hl1.trans hl2).trans hl3).trans hl4)) hC4.old (VRep.mono (((hl1.trans hl2).trans hl3).trans hl4) hxs) ho7 hm1 hx4) fun v4 w5 hv4 => ?_)
  obtain ⟨⟨hv4, ho9⟩, hb5⟩ := hv4
  have hl5 := Le.of_bx (Add g1 M) hb5 (fun b e => (by rw [show b = g from e]; exact hm1))
  have hC5 := hC4.go hb5 (fun b e => Or.inr e)
  have ho10 := ho8.go hb5 (fun e => hn1 e.symm)
  obtain rfl := vint_eq hv4
  refine lw_op rfl rfl rfl (ow_build (v := .agg #[(.int .i64 x1.1), (.int .i64 x2.1), (.int .i64 x3.1), (.int .i64 x4.1)]) rfl rfl (by kernel_rfl) ?_)
  have hw1 : VRep RPacket w5 (Add g1 M) ({ From := x1.1, To := x2.1, Port := x3.1, Proto := x4.1 } : Packet) (.agg #[(.int .i64 x1.1), (.int .i64 x2.1), (.int .i64 x3.1), (.int .i64 x4.1)]) := shut_Packet
  refine lw_op rfl rfl rfl (ow_alloc rfl (Tryd.zeroValue38 _) hC5 fun g2 w6 hg3 hg4 ho11 hb6 hl6 hC6 => ?_)
  have hn2 := Nat.ne_of_lt (Nat.lt_of_lt_of_le ho9.lt hg3)
  have ho12 := ho9.no hb6
  have hm3 : (Add g2 (Add g1 M)) g := .inr hm1
  have hn3 := Nat.ne_of_lt (Nat.lt_of_lt_of_le ho10.lt hg3)
  have ho13 := ho10.no hb6
  have hm4 : (Add g2 (Add g1 M)) g1 := .inr hm2
  have hm5 : (Add g2 (Add g1 M)) g2 := .inl rfl
  refine lw_op0 rfl rfl (ow_store (X := (One g)) (us := [(.int .i64 x1.1), (.int .i64 x2.1), (.int .i64 x3.1), (.int .i64 x4.1)]) (cs' := #[(.int .i64 x1.1), (.int .i64 x2.1), (.int .i64 x3.1), (.int .i64 x4.1)]) rfl rfl rfl rfl ho11 (Tryd.sizeOf38 _) rfl rfl rfl rfl hm5 (.inl hg4) rfl hC6 fun w7 ho14 hb7 hl7 hC7 => ?_)
  have ho15 := ho12.go hb7 (fun e => hn2 e)
  have ho16 := ho13.go hb7 (fun e => hn3 e)
  refine lw_nil ?_
  refine ew_then ?_
  refine cw_seq ?_
  refine cw_seq ?_
  refine cw_region ?_
  refine lw_op rfl rfl rfl (ow_move rfl rfl ?_)
  replace h := bind_some h
  obtain ⟨x5, hx5, h⟩ := h
  refine lw_op rfl rfl rfl (ow_call rfl rfl Tryd.call114 (w_spec_l20Rd_pick (hG.mono ((((((hl1.trans hl2).trans hl3).trans hl4).trans hl5).trans hl6).trans hl7)) hC7.old (VRep.mono ((((((hl1.trans hl2).trans hl3).trans hl4).trans hl5).trans hl6).trans hl7) hxs) ho15 hm3 hx5) fun v5 w8 hv5 => ?_)
  obtain ⟨⟨hv5, ho17⟩, hb8⟩ := hv5
  have hl8 := Le.of_bx (Add g2 (Add g1 M)) hb8 (fun b e => (by rw [show b = g from e]; exact hm3))
  have hC8 := hC7.go hb8 (fun b e => Or.inr e)
  have ho18 := ho16.go hb8 (fun e => hn1 e.symm)
  have ho19 := ho14.go hb8 (fun e => hn2 e.symm)
  obtain rfl := vint_eq hv5
  refine lw_op rfl rfl rfl (ow_eqlI rfl rfl rfl fun bb1 hbb1 => ?_)
  refine lw_nil ?_
  refine ew_then ?_
  replace h := cond_some h
  rcases h with ⟨hc1, h⟩ | ⟨hc1, h⟩
  · obtain rfl := hbb1.trans hc1
    refine cw_true rfl ?_
    refine cw_seq ?_
    refine cw_region ?_
    refine lw_op rfl rfl rfl (ow_move rfl rfl ?_)
    replace h := bind_some h
    obtain ⟨x6, hx6, h⟩ := h
    refine lw_op rfl rfl rfl (ow_call rfl rfl Tryd.call114 (w_spec_l20Rd_pick (hG.mono (((((((hl1.trans hl2).trans hl3).trans hl4).trans hl5).trans hl6).trans hl7).trans hl8)) hC8.old (VRep.mono (((((((hl1.trans hl2).trans hl3).trans hl4).trans hl5).trans hl6).trans hl7).trans hl8) hxs) ho17 hm3 hx6) fun v6 w9 hv6 => ?_)
    obtain ⟨⟨hv6, ho20⟩, hb9⟩ := hv6
    have hl9 := Le.of_bx (Add g2 (Add g1 M)) hb9 (fun b e => (by rw [show b = g from e]; exact hm3))
    have hC9 := hC8.go hb9 (fun b e => Or.inr e)
    have ho21 := ho18.go hb9 (fun e => hn1 e.symm)
    have ho22 := ho19.go hb9 (fun e => hn2 e.symm)
    obtain rfl := vint_eq hv6
    refine lw_op rfl rfl rfl (ow_mul rfl rfl rfl ?_)
    refine lw_op rfl rfl rfl (ow_move rfl rfl ?_)
    replace h := bind_some h
    obtain ⟨x7, hx7, h⟩ := h
    refine lw_op rfl rfl rfl (ow_call rfl rfl Tryd.call114 (w_spec_l20Rd_pick (hG.mono ((((((((hl1.trans hl2).trans hl3).trans hl4).trans hl5).trans hl6).trans hl7).trans hl8).trans hl9)) hC9.old (VRep.mono ((((((((hl1.trans hl2).trans hl3).trans hl4).trans hl5).trans hl6).trans hl7).trans hl8).trans hl9) hxs) ho20 hm3 hx7) fun v7 w10 hv7 => ?_)
    obtain ⟨⟨hv7, ho23⟩, hb10⟩ := hv7
    have hl10 := Le.of_bx (Add g2 (Add g1 M)) hb10 (fun b e => (by rw [show b = g from e]; exact hm3))
    have hC10 := hC9.go hb10 (fun b e => Or.inr e)
    have ho24 := ho21.go hb10 (fun e => hn1 e.symm)
    have ho25 := ho22.go hb10 (fun e => hn2 e.symm)
    obtain rfl := vint_eq hv7
    refine lw_op rfl rfl rfl (ow_add rfl rfl rfl ?_)
    refine lw_op rfl rfl rfl (ow_fieldAddr rfl rfl Tryd.underlying38 rfl (Tryd.sizeOf3 _) ?_)
    refine lw_op0 rfl rfl (ow_store (X := (One g)) (us := [(.int .i64 (W ((W (x6.1 * 256)) + x7.1)))]) (cs' := #[(.int .i64 (W ((W (x6.1 * 256)) + x7.1))), (.int .i64 x2.1), (.int .i64 x3.1), (.int .i64 x4.1)]) rfl rfl rfl rfl ho25 (Tryd.sizeOf3 _) rfl rfl rfl rfl hm5 (.inl hg4) rfl hC10 fun w11 ho26 hb11 hl11 hC11 => ?_)
    have ho27 := ho23.go hb11 (fun e => hn2 e)
    have ho28 := ho24.go hb11 (fun e => hn3 e)
    refine lw_nil ?_
    refine ew_then ?_
    refine cw_seq ?_
    refine cw_region ?_
    refine lw_op rfl rfl rfl (ow_move rfl rfl ?_)
    replace h := bind_some h
    obtain ⟨x8, hx8, h⟩ := h
    refine lw_op rfl rfl rfl (ow_call rfl rfl Tryd.call114 (w_spec_l20Rd_pick (hG.mono ((((((((((hl1.trans hl2).trans hl3).trans hl4).trans hl5).trans hl6).trans hl7).trans hl8).trans hl9).trans hl10).trans hl11)) hC11.old (VRep.mono ((((((((((hl1.trans hl2).trans hl3).trans hl4).trans hl5).trans hl6).trans hl7).trans hl8).trans hl9).trans hl10).trans hl11) hxs) ho27 hm3 hx8) fun v8 w12 hv8 => ?_)
    obtain ⟨⟨hv8, ho29⟩, hb12⟩ := hv8
    have hl12 := Le.of_bx (Add g2 (Add g1 M)) hb12 (fun b e => (by rw [show b = g from e]; exact hm3))
    have hC12 := hC11.go hb12 (fun b e => Or.inr e)
    have ho30 := ho28.go hb12 (fun e => hn1 e.symm)
    have ho31 := ho26.go hb12 (fun e => hn2 e.symm)
    obtain rfl := vint_eq hv8
    refine lw_op rfl rfl rfl (ow_mul rfl rfl rfl ?_)
    refine lw_op rfl rfl rfl (ow_move rfl rfl ?_)
    replace h := bind_some h
    obtain ⟨x9, hx9, h⟩ := h
    refine lw_op rfl rfl rfl (ow_call rfl rfl Tryd.call114 (w_spec_l20Rd_pick (hG.mono (((((((((((hl1.trans hl2).trans hl3).trans hl4).trans hl5).trans hl6).trans hl7).trans hl8).trans hl9).trans hl10).trans hl11).trans hl12)) hC12.old (VRep.mono (((((((((((hl1.trans hl2).trans hl3).trans hl4).trans hl5).trans hl6).trans hl7).trans hl8).trans hl9).trans hl10).trans hl11).trans hl12) hxs) ho29 hm3 hx9) fun v9 w13 hv9 => ?_)
    obtain ⟨⟨hv9, ho32⟩, hb13⟩ := hv9
    have hl13 := Le.of_bx (Add g2 (Add g1 M)) hb13 (fun b e => (by rw [show b = g from e]; exact hm3))
    have hC13 := hC12.go hb13 (fun b e => Or.inr e)
    have ho33 := ho30.go hb13 (fun e => hn1 e.symm)
    have ho34 := ho31.go hb13 (fun e => hn2 e.symm)
    obtain rfl := vint_eq hv9
    refine lw_op rfl rfl rfl (ow_add rfl rfl rfl ?_)
    refine lw_op rfl rfl rfl (ow_fieldAddr rfl rfl Tryd.underlying38 rfl (Tryd.sizeOf3 _) ?_)
    refine lw_op0 rfl rfl (ow_store (X := (One g)) (us := [(.int .i64 (W ((W (x8.1 * 16384)) + x9.1)))]) (cs' := #[(.int .i64 (W ((W (x6.1 * 256)) + x7.1))), (.int .i64 (W ((W (x8.1 * 16384)) + x9.1))), (.int .i64 x3.1), (.int .i64 x4.1)]) rfl rfl rfl rfl ho34 (Tryd.sizeOf3 _) rfl rfl rfl rfl hm5 (.inl hg4) rfl hC13 fun w14 ho35 hb14 hl14 hC14 => ?_)
    have ho36 := ho32.go hb14 (fun e => hn2 e)
    have ho37 := ho33.go hb14 (fun e => hn3 e)
    refine lw_nil ?_
    refine ew_then ?_
    refine cw_region ?_
    refine lw_op rfl rfl rfl (ow_move rfl rfl ?_)
    replace h := bind_some h
    obtain ⟨x10, hx10, h⟩ := h
    refine lw_op rfl rfl rfl (ow_call rfl rfl Tryd.call114 (w_spec_l20Rd_pick (hG.mono (((((((((((((hl1.trans hl2).trans hl3).trans hl4).trans hl5).trans hl6).trans hl7).trans hl8).trans hl9).trans hl10).trans hl11).trans hl12).trans hl13).trans hl14)) hC14.old (VRep.mono (((((((((((((hl1.trans hl2).trans hl3).trans hl4).trans hl5).trans hl6).trans hl7).trans hl8).trans hl9).trans hl10).trans hl11).trans hl12).trans hl13).trans hl14) hxs) ho36 hm3 hx10) fun v10 w15 hv10 => ?_)
    obtain ⟨⟨hv10, ho38⟩, hb15⟩ := hv10
    have hl15 := Le.of_bx (Add g2 (Add g1 M)) hb15 (fun b e => (by rw [show b = g from e]; exact hm3))
    have hC15 := hC14.go hb15 (fun b e => Or.inr e)
    have ho39 := ho37.go hb15 (fun e => hn1 e.symm)
    have ho40 := ho35.go hb15 (fun e => hn2 e.symm)
    obtain rfl := vint_eq hv10
    refine lw_op rfl rfl rfl (ow_fieldAddr rfl rfl Tryd.underlying38 rfl (Tryd.sizeOf3 _) ?_)
    refine lw_op0 rfl rfl (ow_store (X := (One g)) (us := [(.int .i64 x10.1)]) (cs' := #[(.int .i64 (W ((W (x6.1 * 256)) + x7.1))), (.int .i64 (W ((W (x8.1 * 16384)) + x9.1))), (.int .i64 x10.1), (.int .i64 x4.1)]) rfl rfl rfl rfl ho40 (Tryd.sizeOf3 _) rfl rfl rfl rfl hm5 (.inl hg4) rfl hC15 fun w16 ho41 hb16 hl16 hC16 => ?_)
    have ho42 := ho38.go hb16 (fun e => hn2 e)
    have ho43 := ho39.go hb16 (fun e => hn3 e)
    refine lw_nil ?_
    refine ew_then ?_
    refine cw_seq ?_
    refine cw_seq ?_
    refine cw_region ?_
    refine lw_op rfl rfl rfl (ow_move rfl rfl ?_)
    refine lw_op rfl rfl rfl (ow_move rfl rfl ?_)
    replace h := bind_some h
    obtain ⟨x11, hx11, h⟩ := h
    refine lw_op rfl rfl rfl (ow_call rfl rfl Tryd.call115 (w_spec_l20Rd_odd (hG.mono (((((((((((((((hl1.trans hl2).trans hl3).trans hl4).trans hl5).trans hl6).trans hl7).trans hl8).trans hl9).trans hl10).trans hl11).trans hl12).trans hl13).trans hl14).trans hl15).trans hl16)) hC16.old (VRep.mono (((((((((((((((hl1.trans hl2).trans hl3).trans hl4).trans hl5).trans hl6).trans hl7).trans hl8).trans hl9).trans hl10).trans hl11).trans hl12).trans hl13).trans hl14).trans hl15).trans hl16) hxs) ho42 hm3 hx11) fun v11 w17 hv11 => ?_)
    obtain ⟨⟨hv11, ho44⟩, hb17⟩ := hv11
    have hl17 := Le.of_bx (Add g2 (Add g1 M)) hb17 (fun b e => (by rw [show b = g from e]; exact hm3))
    have hC17 := hC16.go hb17 (fun b e => Or.inr e)
    have ho45 := ho43.go hb17 (fun e => hn1 e.symm)
    have ho46 := ho41.go hb17 (fun e => hn2 e.symm)
    obtain ⟨bb2, hbb2, rfl⟩ := vbool_ex hv11
    refine lw_nil ?_
    refine ew_then ?_
    replace h := cond_some h
    rcases h with ⟨hc2, h⟩ | ⟨hc2, h⟩
    · obtain rfl := hbb2.trans hc2
      refine cw_true rfl ?_
      refine cw_seq ?_
      refine cw_region ?_
      refine lw_op rfl rfl rfl (ow_move rfl rfl ?_)
      replace h := bind_some h
      obtain ⟨x12, hx12, h⟩ := h
      refine lw_op rfl rfl rfl (ow_call rfl rfl Tryd.call114 (w_spec_l20Rd_pick (hG.mono ((((((((((((((((hl1.trans hl2).trans hl3).trans hl4).trans hl5).trans hl6).trans hl7).trans hl8).trans hl9).trans hl10).trans hl11).trans hl12).trans hl13).trans hl14).trans hl15).trans hl16).trans hl17)) hC17.old (VRep.mono ((((((((((((((((hl1.trans hl2).trans hl3).trans hl4).trans hl5).trans hl6).trans hl7).trans hl8).trans hl9).trans hl10).trans hl11).trans hl12).trans hl13).trans hl14).trans hl15).trans hl16).trans hl17) hxs) ho44 hm3 hx12) fun v12 w18 hv12 => ?_)
      obtain ⟨⟨hv12, ho47⟩, hb18⟩ := hv12
      have hl18 := Le.of_bx (Add g2 (Add g1 M)) hb18 (fun b e => (by rw [show b = g from e]; exact hm3))
      have hC18 := hC17.go hb18 (fun b e => Or.inr e)
      have ho48 := ho45.go hb18 (fun e => hn1 e.symm)
      have ho49 := ho46.go hb18 (fun e => hn2 e.symm)
      obtain rfl := vint_eq hv12
      refine lw_nil ?_
      refine ew_then ?_
      refine cw_block ?_
      refine cw_seq ?_
      refine cw_region ?_
      refine lw_op rfl rfl rfl (ow_eqlI rfl rfl rfl fun bb3 hbb3 => ?_)
      refine lw_op rfl rfl rfl (ow_assign rfl rfl ?_)
      refine lw_nil ?_
      refine ew_then ?_
      replace h := cond_some h
      rcases h with ⟨hc3, h⟩ | ⟨hc3, h⟩
      · obtain rfl := hbb3.trans hc3
        refine cw_true rfl ?_
        refine cw_region ?_
        refine lw_op rfl rfl rfl (ow_buildSlice (R := RInt) (xs := [(-1), 65536]) (cs := #[(.int .i64 (-1)), (.int .i64 65536)]) (e := 3) rfl rfl (by kernel_rfl) rfl rfl ⟨_, _, rfl, (vint _).cells, _, _, rfl, (vint _).cells, rfl⟩ hC18 fun p1 w19 hw2 hb19 hl19 hC19 => ?_)
        have ho50 := ho47.no hb19
        have ho51 := ho48.no hb19
        have ho52 := ho49.no hb19
        refine lw_op rfl rfl rfl (ow_move rfl rfl ?_)
        replace h := bind_some h
        obtain ⟨x13, hx13, h⟩ := h
        refine lw_op rfl rfl rfl (ow_call rfl rfl Tryd.call114 (w_spec_l20Rd_pick (hG.mono ((((((((((((((((((hl1.trans hl2).trans hl3).trans hl4).trans hl5).trans hl6).trans hl7).trans hl8).trans hl9).trans hl10).trans hl11).trans hl12).trans hl13).trans hl14).trans hl15).trans hl16).trans hl17).trans hl18).trans hl19)) hC19.old (VRep.mono ((((((((((((((((((hl1.trans hl2).trans hl3).trans hl4).trans hl5).trans hl6).trans hl7).trans hl8).trans hl9).trans hl10).trans hl11).trans hl12).trans hl13).trans hl14).trans hl15).trans hl16).trans hl17).trans hl18).trans hl19) hxs) ho50 hm3 hx13) fun v13 w20 hv13 => ?_)
        obtain ⟨⟨hv13, ho53⟩, hb20⟩ := hv13
        have hl20 := Le.of_bx (Add g2 (Add g1 M)) hb20 (fun b e => (by rw [show b = g from e]; exact hm3))
        have hC20 := hC19.go hb20 (fun b e => Or.inr e)
        have ho54 := ho51.go hb20 (fun e => hn1 e.symm)
        have ho55 := ho52.go hb20 (fun e => hn2 e.symm)
        obtain rfl := vint_eq hv13
        replace h := bind_some h
        obtain ⟨x14, hx14, h⟩ := h
        refine lw_op rfl rfl rfl (ow_indexSlice (R := RInt) rfl rfl rfl (VRep.mono hl20 hw2) Tryd.underlying122 (Tryd.sizeOf3 _) hx14 fun p2 hp2 => ?_)
        refine lw_op rfl rfl rfl (ow_load (R := RInt) rfl rfl hp2 (Tryd.sizeOf3 _) (Tryd.isAgg3 _) fun v14 hv14 => ?_)
        obtain rfl := vint_eq hv14
        refine lw_op rfl rfl rfl (ow_fieldAddr rfl rfl Tryd.underlying38 rfl (Tryd.sizeOf3 _) ?_)
        refine lw_op0 rfl rfl (ow_store (X := (One g)) (us := [(.int .i64 x14)]) (cs' := #[(.int .i64 x14), (.int .i64 (W ((W (x8.1 * 16384)) + x9.1))), (.int .i64 x10.1), (.int .i64 x4.1)]) rfl rfl rfl rfl ho55 (Tryd.sizeOf3 _) rfl rfl rfl rfl hm5 (.inl hg4) rfl hC20 fun w21 ho56 hb21 hl21 hC21 => ?_)
        have ho57 := ho53.go hb21 (fun e => hn2 e)
        have ho58 := ho54.go hb21 (fun e => hn3 e)
        refine lw_nil ?_
        refine ew_blockN ?_
        refine ew_then ?_
        refine cw_seq ?_
        refine cw_region ?_
        refine lw_op rfl rfl rfl (ow_loadOwnA rfl rfl rfl ho56 (Tryd.isAgg38 _) (Tryd.sizeOf38 _) rfl ?_)
        have hw3 : VRep RPacket w21 (Add g2 (Add g1 M)) ({ From := x14, To := (W ((W (x8.1 * 16384)) + x9.1)), Port := x10.1, Proto := x4.1 } : Packet) (.agg #[(.int .i64 x14), (.int .i64 (W ((W (x8.1 * 16384)) + x9.1))), (.int .i64 x10.1), (.int .i64 x4.1)]) := shut_Packet
        refine lw_op0 rfl rfl (ow_store (X := (One g)) (us := [(.int .i64 x14), (.int .i64 (W ((W (x8.1 * 16384)) + x9.1))), (.int .i64 x10.1), (.int .i64 x4.1)]) (cs' := #[(.int .i64 x14), (.int .i64 (W ((W (x8.1 * 16384)) + x9.1))), (.int .i64 x10.1), (.int .i64 x4.1)]) rfl rfl rfl rfl ho58 (Tryd.sizeOf38 _) rfl rfl rfl rfl hm4 (.inl hg2) rfl hC21 fun w22 ho59 hb22 hl22 hC22 => ?_)
        have ho60 := ho57.go hb22 (fun e => hn1 e)
        have ho61 := ho56.go hb22 (fun e => hn3 e.symm)
        refine lw_nil ?_
        refine ew_then ?_
        refine cw_ret ?_
        have hw4 : VRep RPacket w22 (Add g2 (Add g1 M)) ({ From := x14, To := (W ((W (x8.1 * 16384)) + x9.1)), Port := x10.1, Proto := x4.1 } : Packet) (.agg #[(.int .i64 x14), (.int .i64 (W ((W (x8.1 * 16384)) + x9.1))), (.int .i64 x10.1), (.int .i64 x4.1)]) := shut_Packet
        obtain rfl := Option.some.inj h
        exact ew_ret (res1 rfl (.cell rfl (own_loadVarA ho59 (Tryd.isAgg38 _) (Tryd.sizeOf38 _) rfl))) ⟨_, rfl, ⟨(hw4.mono hC22.back), ho60⟩, hC22.bx⟩
      · obtain rfl := hbb3.trans hc3
        refine cw_false rfl ?_
        refine cw_seq ?_
        refine cw_region ?_
        refine lw_op rfl rfl rfl (ow_eqlI rfl rfl rfl fun bb4 hbb4 => ?_)
        refine lw_op rfl rfl rfl (ow_assign rfl rfl ?_)
        refine lw_nil ?_
        refine ew_then ?_
        replace h := cond_some h
        rcases h with ⟨hc4, h⟩ | ⟨hc4, h⟩
        · obtain rfl := hbb4.trans hc4
          refine cw_true rfl ?_
          refine cw_region ?_
          refine lw_op rfl rfl rfl (ow_buildSlice (R := RInt) (xs := [(-1), 65536]) (cs := #[(.int .i64 (-1)), (.int .i64 65536)]) (e := 3) rfl rfl (by kernel_rfl) rfl rfl ⟨_, _, rfl, (vint _).cells, _, _, rfl, (vint _).cells, rfl⟩ hC18 fun p3 w23 hw5 hb23 hl23 hC23 => ?_)
          have ho62 := ho47.no hb23
          have ho63 := ho48.no hb23
          have ho64 := ho49.no hb23
          refine lw_op rfl rfl rfl (ow_move rfl rfl ?_)
          replace h := bind_some h
          obtain ⟨x15, hx15, h⟩ := h
          refine lw_op rfl rfl rfl (ow_call rfl rfl Tryd.call114 (w_spec_l20Rd_pick (hG.mono ((((((((((((((((((hl1.trans hl2).trans hl3).trans hl4).trans hl5).trans hl6).trans hl7).trans hl8).trans hl9).trans hl10).trans hl11).trans hl12).trans hl13).trans hl14).trans hl15).trans hl16).trans hl17).trans hl18).trans hl23)) hC23.old (VRep.mono ((((((((((((((((((hl1.trans hl2).trans hl3).trans hl4).trans hl5).trans hl6).trans hl7).trans hl8).trans hl9).trans hl10).trans hl11).trans hl12).trans hl13).trans hl14).trans hl15).trans hl16).trans hl17).trans hl18).trans hl23) hxs) ho62 hm3 hx15) fun v15 w24 hv15 => ?_)
          obtain ⟨⟨hv15, ho65⟩, hb24⟩ := hv15
          have hl24 := Le.of_bx (Add g2 (Add g1 M)) hb24 (fun b e => (by rw [show b = g from e]; exact hm3))
          have hC24 := hC23.go hb24 (fun b e => Or.inr e)
          have ho66 := ho63.go hb24 (fun e => hn1 e.symm)
          have ho67 := ho64.go hb24 (fun e => hn2 e.symm)
          obtain rfl := vint_eq hv15
          replace h := bind_some h
          obtain ⟨x16, hx16, h⟩ := h
          refine lw_op rfl rfl rfl (ow_indexSlice (R := RInt) rfl rfl rfl (VRep.mono hl24 hw5) Tryd.underlying122 (Tryd.sizeOf3 _) hx16 fun p4 hp4 => ?_)
          refine lw_op rfl rfl rfl (ow_load (R := RInt) rfl rfl hp4 (Tryd.sizeOf3 _) (Tryd.isAgg3 _) fun v16 hv16 => ?_)
          obtain rfl := vint_eq hv16
          refine lw_op rfl rfl rfl (ow_fieldAddr rfl rfl Tryd.underlying38 rfl (Tryd.sizeOf3 _) ?_)
          refine lw_op0 rfl rfl (ow_store (X := (One g)) (us := [(.int .i64 x16)]) (cs' := #[(.int .i64 (W ((W (x6.1 * 256)) + x7.1))), (.int .i64 x16), (.int .i64 x10.1), (.int .i64 x4.1)]) rfl rfl rfl rfl ho67 (Tryd.sizeOf3 _) rfl rfl rfl rfl hm5 (.inl hg4) rfl hC24 fun w25 ho68 hb25 hl25 hC25 => ?_)
          have ho69 := ho65.go hb25 (fun e => hn2 e)
          have ho70 := ho66.go hb25 (fun e => hn3 e)
          refine lw_nil ?_
          refine ew_blockN ?_
          refine ew_then ?_
          refine cw_seq ?_
          refine cw_region ?_
          refine lw_op rfl rfl rfl (ow_loadOwnA rfl rfl rfl ho68 (Tryd.isAgg38 _) (Tryd.sizeOf38 _) rfl ?_)
          have hw6 : VRep RPacket w25 (Add g2 (Add g1 M)) ({ From := (W ((W (x6.1 * 256)) + x7.1)), To := x16, Port := x10.1, Proto := x4.1 } : Packet) (.agg #[(.int .i64 (W ((W (x6.1 * 256)) + x7.1))), (.int .i64 x16), (.int .i64 x10.1), (.int .i64 x4.1)]) := shut_Packet
          refine lw_op0 rfl rfl (ow_store (X := (One g)) (us := [(.int .i64 (W ((W (x6.1 * 256)) + x7.1))), (.int .i64 x16), (.int .i64 x10.1), (.int .i64 x4.1)]) (cs' := #[(.int .i64 (W ((W (x6.1 * 256)) + x7.1))), (.int .i64 x16), (.int .i64 x10.1), (.int .i64 x4.1)]) rfl rfl rfl rfl ho70 (Tryd.sizeOf38 _) rfl rfl rfl rfl hm4 (.inl hg2) rfl hC25 fun w26 ho71 hb26 hl26 hC26 => ?_)
          have ho72 := ho69.go hb26 (fun e => hn1 e)
          have ho73 := ho68.go hb26 (fun e => hn3 e.symm)
          refine lw_nil ?_
          refine ew_then ?_
          refine cw_ret ?_
          have hw7 : VRep RPacket w26 (Add g2 (Add g1 M)) ({ From := (W ((W (x6.1 * 256)) + x7.1)), To := x16, Port := x10.1, Proto := x4.1 } : Packet) (.agg #[(.int .i64 (W ((W (x6.1 * 256)) + x7.1))), (.int .i64 x16), (.int .i64 x10.1), (.int .i64 x4.1)]) := shut_Packet
          obtain rfl := Option.some.inj h
          exact ew_ret (res1 rfl (.cell rfl (own_loadVarA ho71 (Tryd.isAgg38 _) (Tryd.sizeOf38 _) rfl))) ⟨_, rfl, ⟨(hw7.mono hC26.back), ho72⟩, hC26.bx⟩
        · obtain rfl := hbb4.trans hc4
          refine cw_false rfl ?_
          refine cw_seq ?_
          refine cw_region ?_
          refine lw_op rfl rfl rfl (ow_eqlI rfl rfl rfl fun bb5 hbb5 => ?_)
          refine lw_op rfl rfl rfl (ow_assign rfl rfl ?_)
          refine lw_nil ?_
          refine ew_then ?_
          replace h := cond_some h
          rcases h with ⟨hc5, h⟩ | ⟨hc5, h⟩
          · obtain rfl := hbb5.trans hc5
            refine cw_true rfl ?_
            refine cw_region ?_
            refine lw_op rfl rfl rfl (ow_buildSlice (R := RInt) (xs := [(-1), 256]) (cs := #[(.int .i64 (-1)), (.int .i64 256)]) (e := 3) rfl rfl (by kernel_rfl) rfl rfl ⟨_, _, rfl, (vint _).cells, _, _, rfl, (vint _).cells, rfl⟩ hC18 fun p5 w27 hw8 hb27 hl27 hC27 => ?_)
            have ho74 := ho47.no hb27
            have ho75 := ho48.no hb27
            have ho76 := ho49.no hb27
            refine lw_op rfl rfl rfl (ow_move rfl rfl ?_)
            replace h := bind_some h
            obtain ⟨x17, hx17, h⟩ := h
            refine lw_op rfl rfl rfl (ow_call rfl rfl Tryd.call114 (w_spec_l20Rd_pick (hG.mono ((((((((((((((((((hl1.trans hl2).trans hl3).trans hl4).trans hl5).trans hl6).trans hl7).trans hl8).trans hl9).trans hl10).trans hl11).trans hl12).trans hl13).trans hl14).trans hl15).trans hl16).trans hl17).trans hl18).trans hl27)) hC27.old (VRep.mono ((((((((((((((((((hl1.trans hl2).trans hl3).trans hl4).trans hl5).trans hl6).trans hl7).trans hl8).trans hl9).trans hl10).trans hl11).trans hl12).trans hl13).trans hl14).trans hl15).trans hl16).trans hl17).trans hl18).trans hl27) hxs) ho74 hm3 hx17) fun v17 w28 hv17 => ?_)
            obtain ⟨⟨hv17, ho77⟩, hb28⟩ := hv17
            have hl28 := Le.of_bx (Add g2 (Add g1 M)) hb28 (fun b e => (by rw [show b = g from e]; exact hm3))
            have hC28 := hC27.go hb28 (fun b e => Or.inr e)
            have ho78 := ho75.go hb28 (fun e => hn1 e.symm)
            have ho79 := ho76.go hb28 (fun e => hn2 e.symm)
            obtain rfl := vint_eq hv17
            replace h := bind_some h
            obtain ⟨x18, hx18, h⟩ := h
            refine lw_op rfl rfl rfl (ow_indexSlice (R := RInt) rfl rfl rfl (VRep.mono hl28 hw8) Tryd.underlying122 (Tryd.sizeOf3 _) hx18 fun p6 hp6 => ?_)
            refine lw_op rfl rfl rfl (ow_load (R := RInt) rfl rfl hp6 (Tryd.sizeOf3 _) (Tryd.isAgg3 _) fun v18 hv18 => ?_)
            obtain rfl := vint_eq hv18
            refine lw_op rfl rfl rfl (ow_fieldAddr rfl rfl Tryd.underlying38 rfl (Tryd.sizeOf3 _) ?_)
            refine lw_op0 rfl rfl (ow_store (X := (One g)) (us := [(.int .i64 x18)]) (cs' := #[(.int .i64 (W ((W (x6.1 * 256)) + x7.1))), (.int .i64 (W ((W (x8.1 * 16384)) + x9.1))), (.int .i64 x18), (.int .i64 x4.1)]) rfl rfl rfl rfl ho79 (Tryd.sizeOf3 _) rfl rfl rfl rfl hm5 (.inl hg4) rfl hC28 fun w29 ho80 hb29 hl29 hC29 => ?_)
            have ho81 := ho77.go hb29 (fun e => hn2 e)
            have ho82 := ho78.go hb29 (fun e => hn3 e)
            refine lw_nil ?_
            refine ew_blockN ?_
            refine ew_then ?_
            refine cw_seq ?_
            refine cw_region ?_
            refine lw_op rfl rfl rfl (ow_loadOwnA rfl rfl rfl ho80 (Tryd.isAgg38 _) (Tryd.sizeOf38 _) rfl ?_)
            have hw9 : VRep RPacket w29 (Add g2 (Add g1 M)) ({ From := (W ((W (x6.1 * 256)) + x7.1)), To := (W ((W (x8.1 * 16384)) + x9.1)), Port := x18, Proto := x4.1 } : Packet) (.agg #[(.int .i64 (W ((W (x6.1 * 256)) + x7.1))), (.int .i64 (W ((W (x8.1 * 16384)) + x9.1))), (.int .i64 x18), (.int .i64 x4.1)]) := shut_Packet
            refine lw_op0 rfl rfl (ow_store (X := (One g)) (us := [(.int .i64 (W ((W (x6.1 * 256)) + x7.1))), (.int .i64 (W ((W (x8.1 * 16384)) + x9.1))), (.int .i64 x18), (.int .i64 x4.1)]) (cs' := #[(.int .i64 (W ((W (x6.1 * 256)) + x7.1))), (.int .i64 (W ((W (x8.1 * 16384)) + x9.1))), (.int .i64 x18), (.int .i64 x4.1)]) rfl rfl rfl rfl ho82 (Tryd.sizeOf38 _) rfl rfl rfl rfl hm4 (.inl hg2) rfl hC29 fun w30 ho83 hb30 hl30 hC30 => ?_)
            have ho84 := ho81.go hb30 (fun e => hn1 e)
            have ho85 := ho80.go hb30 (fun e => hn3 e.symm)
            refine lw_nil ?_
            refine ew_then ?_
            refine cw_ret ?_
            have hw10 : VRep RPacket w30 (Add g2 (Add g1 M)) ({ From := (W ((W (x6.1 * 256)) + x7.1)), To := (W ((W (x8.1 * 16384)) + x9.1)), Port := x18, Proto := x4.1 } : Packet) (.agg #[(.int .i64 (W ((W (x6.1 * 256)) + x7.1))), (.int .i64 (W ((W (x8.1 * 16384)) + x9.1))), (.int .i64 x18), (.int .i64 x4.1)]) := shut_Packet
            obtain rfl := Option.some.inj h
            exact ew_ret (res1 rfl (.cell rfl (own_loadVarA ho83 (Tryd.isAgg38 _) (Tryd.sizeOf38 _) rfl))) ⟨_, rfl, ⟨(hw10.mono hC30.back), ho84⟩, hC30.bx⟩
          · obtain rfl := hbb5.trans hc5
            refine cw_false rfl ?_
            refine cw_region ?_
            refine lw_op rfl rfl rfl (ow_buildSlice (R := RInt) (xs := [(-1), 8]) (cs := #[(.int .i64 (-1)), (.int .i64 8)]) (e := 3) rfl rfl (by kernel_rfl) rfl rfl ⟨_, _, rfl, (vint _).cells, _, _, rfl, (vint _).cells, rfl⟩ hC18 fun p7 w31 hw11 hb31 hl31 hC31 => ?_)
            have ho86 := ho47.no hb31
            have ho87 := ho48.no hb31
            have ho88 := ho49.no hb31
            refine lw_op rfl rfl rfl (ow_move rfl rfl ?_)
            replace h := bind_some h
            obtain ⟨x19, hx19, h⟩ := h
            refine lw_op rfl rfl rfl (ow_call rfl rfl Tryd.call114 (w_spec_l20Rd_pick (hG.mono ((((((((((((((((((hl1.trans hl2).trans hl3).trans hl4).trans hl5).trans hl6).trans hl7).trans hl8).trans hl9).trans hl10).trans hl11).trans hl12).trans hl13).trans hl14).trans hl15).trans hl16).trans hl17).trans hl18).trans hl31)) hC31.old (VRep.mono ((((((((((((((((((hl1.trans hl2).trans hl3).trans hl4).trans hl5).trans hl6).trans hl7).trans hl8).trans hl9).trans hl10).trans hl11).trans hl12).trans hl13).trans hl14).trans hl15).trans hl16).trans hl17).trans hl18).trans hl31) hxs) ho86 hm3 hx19) fun v19 w32 hv19 => ?_)
            obtain ⟨⟨hv19, ho89⟩, hb32⟩ := hv19
            have hl32 := Le.of_bx (Add g2 (Add g1 M)) hb32 (fun b e => (by rw [show b = g from e]; exact hm3))
            have hC32 := hC31.go hb32 (fun b e => Or.inr e)
            have ho90 := ho87.go hb32 (fun e => hn1 e.symm)
            have ho91 := ho88.go hb32 (fun e => hn2 e.symm)
            obtain rfl := vint_eq hv19
            replace h := bind_some h
            obtain ⟨x20, hx20, h⟩ := h
            refine lw_op rfl rfl rfl (ow_indexSlice (R := RInt) rfl rfl rfl (VRep.mono hl32 hw11) Tryd.underlying122 (Tryd.sizeOf3 _) hx20 fun p8 hp8 => ?_)
            refine lw_op rfl rfl rfl (ow_load (R := RInt) rfl rfl hp8 (Tryd.sizeOf3 _) (Tryd.isAgg3 _) fun v20 hv20 => ?_)
            obtain rfl := vint_eq hv20
            refine lw_op rfl rfl rfl (ow_fieldAddr rfl rfl Tryd.underlying38 rfl (Tryd.sizeOf3 _) ?_)
            refine lw_op0 rfl rfl (ow_store (X := (One g)) (us := [(.int .i64 x20)]) (cs' := #[(.int .i64 (W ((W (x6.1 * 256)) + x7.1))), (.int .i64 (W ((W (x8.1 * 16384)) + x9.1))), (.int .i64 x10.1), (.int .i64 x20)]) rfl rfl rfl rfl ho91 (Tryd.sizeOf3 _) rfl rfl rfl rfl hm5 (.inl hg4) rfl hC32 fun w33 ho92 hb33 hl33 hC33 => ?_)
            have ho93 := ho89.go hb33 (fun e => hn2 e)
            have ho94 := ho90.go hb33 (fun e => hn3 e)
            refine lw_nil ?_
            refine ew_blockN ?_
            refine ew_then ?_
            refine cw_seq ?_
            refine cw_region ?_
            refine lw_op rfl rfl rfl (ow_loadOwnA rfl rfl rfl ho92 (Tryd.isAgg38 _) (Tryd.sizeOf38 _) rfl ?_)
            have hw12 : VRep RPacket w33 (Add g2 (Add g1 M)) ({ From := (W ((W (x6.1 * 256)) + x7.1)), To := (W ((W (x8.1 * 16384)) + x9.1)), Port := x10.1, Proto := x20 } : Packet) (.agg #[(.int .i64 (W ((W (x6.1 * 256)) + x7.1))), (.int .i64 (W ((W (x8.1 * 16384)) + x9.1))), (.int .i64 x10.1), (.int .i64 x20)]) := shut_Packet
            refine lw_op0 rfl rfl (ow_store (X := (One g)) (us := [(.int .i64 (W ((W (x6.1 * 256)) + x7.1))), (.int .i64 (W ((W (x8.1 * 16384)) + x9.1))), (.int .i64 x10.1), (.int .i64 x20)]) (cs' := #[(.int .i64 (W ((W (x6.1 * 256)) + x7.1))), (.int .i64 (W ((W (x8.1 * 16384)) + x9.1))), (.int .i64 x10.1), (.int .i64 x20)]) rfl rfl rfl rfl ho94 (Tryd.sizeOf38 _) rfl rfl rfl rfl hm4 (.inl hg2) rfl hC33 fun w34 ho95 hb34 hl34 hC34 => ?_)
            have ho96 := ho93.go hb34 (fun e => hn1 e)
            have ho97 := ho92.go hb34 (fun e => hn3 e.symm)
            refine lw_nil ?_
            refine ew_then ?_
            refine cw_ret ?_
            have hw13 : VRep RPacket w34 (Add g2 (Add g1 M)) ({ From := (W ((W (x6.1 * 256)) + x7.1)), To := (W ((W (x8.1 * 16384)) + x9.1)), Port := x10.1, Proto := x20 } : Packet) (.agg #[(.int .i64 (W ((W (x6.1 * 256)) + x7.1))), (.int .i64 (W ((W (x8.1 * 16384)) + x9.1))), (.int .i64 x10.1), (.int .i64 x20)]) := shut_Packet
            obtain rfl := Option.some.inj h
            exact ew_ret (res1 rfl (.cell rfl (own_loadVarA ho95 (Tryd.isAgg38 _) (Tryd.sizeOf38 _) rfl))) ⟨_, rfl, ⟨(hw13.mono hC34.back), ho96⟩, hC34.bx⟩
    · obtain rfl := hbb2.trans hc2
      refine cw_false rfl ?_
      refine cw_skip ?_
      refine ew_then ?_
      refine cw_seq ?_
      refine cw_region ?_
      refine lw_op rfl rfl rfl (ow_loadOwnA rfl rfl rfl ho46 (Tryd.isAgg38 _) (Tryd.sizeOf38 _) rfl ?_)
      have hw14 : VRep RPacket w17 (Add g2 (Add g1 M)) ({ From := (W ((W (x6.1 * 256)) + x7.1)), To := (W ((W (x8.1 * 16384)) + x9.1)), Port := x10.1, Proto := x4.1 } : Packet) (.agg #[(.int .i64 (W ((W (x6.1 * 256)) + x7.1))), (.int .i64 (W ((W (x8.1 * 16384)) + x9.1))), (.int .i64 x10.1), (.int .i64 x4.1)]) := shut_Packet
      refine lw_op0 rfl rfl (ow_store (X := (One g)) (us := [(.int .i64 (W ((W (x6.1 * 256)) + x7.1))), (.int .i64 (W ((W (x8.1 * 16384)) + x9.1))), (.int .i64 x10.1), (.int .i64 x4.1)]) (cs' := #[(.int .i64 (W ((W (x6.1 * 256)) + x7.1))), (.int .i64 (W ((W (x8.1 * 16384)) + x9.1))), (.int .i64 x10.1), (.int .i64 x4.1)]) rfl rfl rfl rfl ho45 (Tryd.sizeOf38 _) rfl rfl rfl rfl hm4 (.inl hg2) rfl hC17 fun w35 ho98 hb35 hl35 hC35 => ?_)
      have ho99 := ho44.go hb35 (fun e => hn1 e)
      have ho100 := ho46.go hb35 (fun e => hn3 e.symm)
      refine lw_nil ?_
      refine ew_then ?_
      refine cw_ret ?_
      have hw15 : VRep RPacket w35 (Add g2 (Add g1 M)) ({ From := (W ((W (x6.1 * 256)) + x7.1)), To := (W ((W (x8.1 * 16384)) + x9.1)), Port := x10.1, Proto := x4.1 } : Packet) (.agg #[(.int .i64 (W ((W (x6.1 * 256)) + x7.1))), (.int .i64 (W ((W (x8.1 * 16384)) + x9.1))), (.int .i64 x10.1), (.int .i64 x4.1)]) := shut_Packet
      obtain rfl := Option.some.inj h
      exact ew_ret (res1 rfl (.cell rfl (own_loadVarA ho98 (Tryd.isAgg38 _) (Tryd.sizeOf38 _) rfl))) ⟨_, rfl, ⟨(hw15.mono hC35.back), ho99⟩, hC35.bx⟩
  · obtain rfl := hbb1.trans hc1
    refine cw_false rfl ?_
    refine cw_skip ?_
    refine ew_then ?_
    refine cw_seq ?_
    refine cw_seq ?_
    refine cw_region ?_
    refine lw_op rfl rfl rfl (ow_move rfl rfl ?_)
    refine lw_op rfl rfl rfl (ow_move rfl rfl ?_)
    replace h := bind_some h
    obtain ⟨x21, hx21, h⟩ := h
    refine lw_op rfl rfl rfl (ow_call rfl rfl Tryd.call115 (w_spec_l20Rd_odd (hG.mono (((((((hl1.trans hl2).trans hl3).trans hl4).trans hl5).trans hl6).trans hl7).trans hl8)) hC8.old (VRep.mono (((((((hl1.trans hl2).trans hl3).trans hl4).trans hl5).trans hl6).trans hl7).trans hl8) hxs) ho17 hm3 hx21) fun v21 w36 hv21 => ?_)
    obtain ⟨⟨hv21, ho101⟩, hb36⟩ := hv21
    have hl36 := Le.of_bx (Add g2 (Add g1 M)) hb36 (fun b e => (by rw [show b = g from e]; exact hm3))
    have hC36 := hC8.go hb36 (fun b e => Or.inr e)
    have ho102 := ho18.go hb36 (fun e => hn1 e.symm)
    have ho103 := ho19.go hb36 (fun e => hn2 e.symm)
    obtain ⟨bb6, hbb6, rfl⟩ := vbool_ex hv21
    refine lw_nil ?_
    refine ew_then ?_
    replace h := cond_some h
    rcases h with ⟨hc6, h⟩ | ⟨hc6, h⟩
    · obtain rfl := hbb6.trans hc6
      refine cw_true rfl ?_
      refine cw_seq ?_
      refine cw_region ?_
      refine lw_op rfl rfl rfl (ow_move rfl rfl ?_)
      replace h := bind_some h
      obtain ⟨x22, hx22, h⟩ := h
      refine lw_op rfl rfl rfl (ow_call rfl rfl Tryd.call114 (w_spec_l20Rd_pick (hG.mono ((((((((hl1.trans hl2).trans hl3).trans hl4).trans hl5).trans hl6).trans hl7).trans hl8).trans hl36)) hC36.old (VRep.mono ((((((((hl1.trans hl2).trans hl3).trans hl4).trans hl5).trans hl6).trans hl7).trans hl8).trans hl36) hxs) ho101 hm3 hx22) fun v22 w37 hv22 => ?_)
      obtain ⟨⟨hv22, ho104⟩, hb37⟩ := hv22
      have hl37 := Le.of_bx (Add g2 (Add g1 M)) hb37 (fun b e => (by rw [show b = g from e]; exact hm3))
      have hC37 := hC36.go hb37 (fun b e => Or.inr e)
      have ho105 := ho102.go hb37 (fun e => hn1 e.symm)
      have ho106 := ho103.go hb37 (fun e => hn2 e.symm)
      obtain rfl := vint_eq hv22
      refine lw_nil ?_
      refine ew_then ?_
      refine cw_block ?_
      refine cw_seq ?_
      refine cw_region ?_
      refine lw_op rfl rfl rfl (ow_eqlI rfl rfl rfl fun bb7 hbb7 => ?_)
      refine lw_op rfl rfl rfl (ow_assign rfl rfl ?_)
      refine lw_nil ?_
      refine ew_then ?_
      replace h := cond_some h
      rcases h with ⟨hc7, h⟩ | ⟨hc7, h⟩
      · obtain rfl := hbb7.trans hc7
        refine cw_true rfl ?_
        refine cw_region ?_
        refine lw_op rfl rfl rfl (ow_buildSlice (R := RInt) (xs := [(-1), 65536]) (cs := #[(.int .i64 (-1)), (.int .i64 65536)]) (e := 3) rfl rfl (by kernel_rfl) rfl rfl ⟨_, _, rfl, (vint _).cells, _, _, rfl, (vint _).cells, rfl⟩ hC37 fun p9 w38 hw16 hb38 hl38 hC38 => ?_)
        have ho107 := ho104.no hb38
        have ho108 := ho105.no hb38
        have ho109 := ho106.no hb38
        refine lw_op rfl rfl rfl (ow_move rfl rfl ?_)
        replace h := bind_some h
        obtain ⟨x23, hx23, h⟩ := h
        refine lw_op rfl rfl rfl (ow_call rfl rfl Tryd.call114 (w_spec_l20Rd_pick (hG.mono ((((((((((hl1.trans hl2).trans hl3).trans hl4).trans hl5).trans hl6).trans hl7).trans hl8).trans hl36).trans hl37).trans hl38)) hC38.old (VRep.mono ((((((((((hl1.trans hl2).trans hl3).trans hl4).trans hl5).trans hl6).trans hl7).trans hl8).trans hl36).trans hl37).trans hl38) hxs) ho107 hm3 hx23) fun v23 w39 hv23 => ?_)
        obtain ⟨⟨hv23, ho110⟩, hb39⟩ := hv23
        have hl39 := Le.of_bx (Add g2 (Add g1 M)) hb39 (fun b e => (by rw [show b = g from e]; exact hm3))
        have hC39 := hC38.go hb39 (fun b e => Or.inr e)
        have ho111 := ho108.go hb39 (fun e => hn1 e.symm)
        have ho112 := ho109.go hb39 (fun e => hn2 e.symm)
        obtain rfl := vint_eq hv23
        replace h := bind_some h
        obtain ⟨x24, hx24, h⟩ := h
        refine lw_op rfl rfl rfl (ow_indexSlice (R := RInt) rfl rfl rfl (VRep.mono hl39 hw16) Tryd.underlying122 (Tryd.sizeOf3 _) hx24 fun p10 hp10 => ?_)
        refine lw_op rfl rfl rfl (ow_load (R := RInt) rfl rfl hp10 (Tryd.sizeOf3 _) (Tryd.isAgg3 _) fun v24 hv24 => ?_)
        obtain rfl := vint_eq hv24
        refine lw_op rfl rfl rfl (ow_fieldAddr rfl rfl Tryd.underlying38 rfl (Tryd.sizeOf3 _) ?_)
        refine lw_op0 rfl rfl (ow_store (X := (One g)) (us := [(.int .i64 x24)]) (cs' := #[(.int .i64 x24), (.int .i64 x2.1), (.int .i64 x3.1), (.int .i64 x4.1)]) rfl rfl rfl rfl ho112 (Tryd.sizeOf3 _) rfl rfl rfl rfl hm5 (.inl hg4) rfl hC39 fun w40 ho113 hb40 hl40 hC40 => ?_)
        have ho114 := ho110.go hb40 (fun e => hn2 e)
        have ho115 := ho111.go hb40 (fun e => hn3 e)
        refine lw_nil ?_
        refine ew_blockN ?_
        refine ew_then ?_
        refine cw_seq ?_
        refine cw_region ?_
        refine lw_op rfl rfl rfl (ow_loadOwnA rfl rfl rfl ho113 (Tryd.isAgg38 _) (Tryd.sizeOf38 _) rfl ?_)
        have hw17 : VRep RPacket w40 (Add g2 (Add g1 M)) ({ From := x24, To := x2.1, Port := x3.1, Proto := x4.1 } : Packet) (.agg #[(.int .i64 x24), (.int .i64 x2.1), (.int .i64 x3.1), (.int .i64 x4.1)]) := shut_Packet
        refine lw_op0 rfl rfl (ow_store (X := (One g)) (us := [(.int .i64 x24), (.int .i64 x2.1), (.int .i64 x3.1), (.int .i64 x4.1)]) (cs' := #[(.int .i64 x24), (.int .i64 x2.1), (.int .i64 x3.1), (.int .i64 x4.1)]) rfl rfl rfl rfl ho115 (Tryd.sizeOf38 _) rfl rfl rfl rfl hm4 (.inl hg2) rfl hC40 fun w41 ho116 hb41 hl41 hC41 => ?_)
        have ho117 := ho114.go hb41 (fun e => hn1 e)
        have ho118 := ho113.go hb41 (fun e => hn3 e.symm)
        refine lw_nil ?_
        refine ew_then ?_
        refine cw_ret ?_
        have hw18 : VRep RPacket w41 (Add g2 (Add g1 M)) ({ From := x24, To := x2.1, Port := x3.1, Proto := x4.1 } : Packet) (.agg #[(.int .i64 x24), (.int .i64 x2.1), (.int .i64 x3.1), (.int .i64 x4.1)]) := shut_Packet
        obtain rfl := Option.some.inj h
        exact ew_ret (res1 rfl (.cell rfl (own_loadVarA ho116 (Tryd.isAgg38 _) (Tryd.sizeOf38 _) rfl))) ⟨_, rfl, ⟨(hw18.mono hC41.back), ho117⟩, hC41.bx⟩
      · obtain rfl := hbb7.trans hc7
        refine cw_false rfl ?_
        refine cw_seq ?_
        refine cw_region ?_
        refine lw_op rfl rfl rfl (ow_eqlI rfl rfl rfl fun bb8 hbb8 => ?_)
        refine lw_op rfl rfl rfl (ow_assign rfl rfl ?_)
        refine lw_nil ?_
        refine ew_then ?_
        replace h := cond_some h
        rcases h with ⟨hc8, h⟩ | ⟨hc8, h⟩
        · obtain rfl := hbb8.trans hc8
          refine cw_true rfl ?_
          refine cw_region ?_
          refine lw_op rfl rfl rfl (ow_buildSlice (R := RInt) (xs := [(-1), 65536]) (cs := #[(.int .i64 (-1)), (.int .i64 65536)]) (e := 3) rfl rfl (by kernel_rfl) rfl rfl ⟨_, _, rfl, (vint _).cells, _, _, rfl, (vint _).cells, rfl⟩ hC37 fun p11 w42 hw19 hb42 hl42 hC42 => ?_)
          have ho119 := ho104.no hb42
          have ho120 := ho105.no hb42
          have ho121 := ho106.no hb42
          refine lw_op rfl rfl rfl (ow_move rfl rfl ?_)
          replace h := bind_some h
          obtain ⟨x25, hx25, h⟩ := h
          refine lw_op rfl rfl rfl (ow_call rfl rfl Tryd.call114 (w_spec_l20Rd_pick (hG.mono ((((((((((hl1.trans hl2).trans hl3).trans hl4).trans hl5).trans hl6).trans hl7).trans hl8).trans hl36).trans hl37).trans hl42)) hC42.old (VRep.mono ((((((((((hl1.trans hl2).trans hl3).trans hl4).trans hl5).trans hl6).trans hl7).trans hl8).trans hl36).trans hl37).trans hl42) hxs) ho119 hm3 hx25) fun v25 w43 hv25 => ?_)
          obtain ⟨⟨hv25, ho122⟩, hb43⟩ := hv25
          have hl43 := Le.of_bx (Add g2 (Add g1 M)) hb43 (fun b e => (by rw [show b = g from e]; exact hm3))
          have hC43 := hC42.go hb43 (fun b e => Or.inr e)
          have ho123 := ho120.go hb43 (fun e => hn1 e.symm)
          have ho124 := ho121.go hb43 (fun e => hn2 e.symm)
          obtain rfl := vint_eq hv25
          replace h := bind_some h
          obtain ⟨x26, hx26, h⟩ := h
          refine lw_op rfl rfl rfl (ow_indexSlice (R := RInt) rfl rfl rfl (VRep.mono hl43 hw19) Tryd.underlying122 (Tryd.sizeOf3 _) hx26 fun p12 hp12 => ?_)
          refine lw_op rfl rfl rfl (ow_load (R := RInt) rfl rfl hp12 (Tryd.sizeOf3 _) (Tryd.isAgg3 _) fun v26 hv26 => ?_)
          obtain rfl := vint_eq hv26
          refine lw_op rfl rfl rfl (ow_fieldAddr rfl rfl Tryd.underlying38 rfl (Tryd.sizeOf3 _) ?_)
          refine lw_op0 rfl rfl (ow_store (X := (One g)) (us := [(.int .i64 x26)]) (cs' := #[(.int .i64 x1.1), (.int .i64 x26), (.int .i64 x3.1), (.int .i64 x4.1)]) rfl rfl rfl rfl ho124 (Tryd.sizeOf3 _) rfl rfl rfl rfl hm5 (.inl hg4) rfl hC43 fun w44 ho125 hb44 hl44 hC44 => ?_)
          have ho126 := ho122.go hb44 (fun e => hn2 e)
          have ho127 := ho123.go hb44 (fun e => hn3 e)
          refine lw_nil ?_
          refine ew_blockN ?_
          refine ew_then ?_
          refine cw_seq ?_
          refine cw_region ?_
          refine lw_op rfl rfl rfl (ow_loadOwnA rfl rfl rfl ho125 (Tryd.isAgg38 _) (Tryd.sizeOf38 _) rfl ?_)
          have hw20 : VRep RPacket w44 (Add g2 (Add g1 M)) ({ From := x1.1, To := x26, Port := x3.1, Proto := x4.1 } : Packet) (.agg #[(.int .i64 x1.1), (.int .i64 x26), (.int .i64 x3.1), (.int .i64 x4.1)]) := shut_Packet
          refine lw_op0 rfl rfl (ow_store (X := (One g)) (us := [(.int .i64 x1.1), (.int .i64 x26), (.int .i64 x3.1), (.int .i64 x4.1)]) (cs' := #[(.int .i64 x1.1), (.int .i64 x26), (.int .i64 x3.1), (.int .i64 x4.1)]) rfl rfl rfl rfl ho127 (Tryd.sizeOf38 _) rfl rfl rfl rfl hm4 (.inl hg2) rfl hC44 fun w45 ho128 hb45 hl45 hC45 => ?_)
          have ho129 := ho126.go hb45 (fun e => hn1 e)
          have ho130 := ho125.go hb45 (fun e => hn3 e.symm)
          refine lw_nil ?_
          refine ew_then ?_
          refine cw_ret ?_
          have hw21 : VRep RPacket w45 (Add g2 (Add g1 M)) ({ From := x1.1, To := x26, Port := x3.1, Proto := x4.1 } : Packet) (.agg #[(.int .i64 x1.1), (.int .i64 x26), (.int .i64 x3.1), (.int .i64 x4.1)]) := shut_Packet
          obtain rfl := Option.some.inj h
          exact ew_ret (res1 rfl (.cell rfl (own_loadVarA ho128 (Tryd.isAgg38 _) (Tryd.sizeOf38 _) rfl))) ⟨_, rfl, ⟨(hw21.mono hC45.back), ho129⟩, hC45.bx⟩
        · obtain rfl := hbb8.trans hc8
          refine cw_false rfl ?_
          refine cw_seq ?_
          refine cw_region ?_
          refine lw_op rfl rfl rfl (ow_eqlI rfl rfl rfl fun bb9 hbb9 => ?_)
          refine lw_op rfl rfl rfl (ow_assign rfl rfl ?_)
          refine lw_nil ?_
          refine ew_then ?_
          replace h := cond_some h
          rcases h with ⟨hc9, h⟩ | ⟨hc9, h⟩
          · obtain rfl := hbb9.trans hc9
            refine cw_true rfl ?_
            refine cw_region ?_
            refine lw_op rfl rfl rfl (ow_buildSlice (R := RInt) (xs := [(-1), 256]) (cs := #[(.int .i64 (-1)), (.int .i64 256)]) (e := 3) rfl rfl (by kernel_rfl) rfl rfl ⟨_, _, rfl, (vint _).cells, _, _, rfl, (vint _).cells, rfl⟩ hC37 fun p13 w46 hw22 hb46 hl46 hC46 => ?_)
            have ho131 := ho104.no hb46
            have ho132 := ho105.no hb46
            have ho133 := ho106.no hb46
            refine lw_op rfl rfl rfl (ow_move rfl rfl ?_)
            replace h := bind_some h
            obtain ⟨x27, hx27, h⟩ := h
            refine lw_op rfl rfl rfl (ow_call rfl rfl Tryd.call114 (w_spec_l20Rd_pick (hG.mono ((((((((((hl1.trans hl2).trans hl3).trans hl4).trans hl5).trans hl6).trans hl7).trans hl8).trans hl36).trans hl37).trans hl46)) hC46.old (VRep.mono ((((((((((hl1.trans hl2).trans hl3).trans hl4).trans hl5).trans hl6).trans hl7).trans hl8).trans hl36).trans hl37).trans hl46) hxs) ho131 hm3 hx27) fun v27 w47 hv27 => ?_)
            obtain ⟨⟨hv27, ho134⟩, hb47⟩ := hv27
            have hl47 := Le.of_bx (Add g2 (Add g1 M)) hb47 (fun b e => (by rw [show b = g from e]; exact hm3))
            have hC47 := hC46.go hb47 (fun b e => Or.inr e)
            have ho135 := ho132.go hb47 (fun e => hn1 e.symm)
            have ho136 := ho133.go hb47 (fun e => hn2 e.symm)
            obtain rfl := vint_eq hv27
            replace h := bind_some h
            obtain ⟨x28, hx28, h⟩ := h
            refine lw_op rfl rfl rfl (ow_indexSlice (R := RInt) rfl rfl rfl (VRep.mono hl47 hw22) Tryd.underlying122 (Tryd.sizeOf3 _) hx28 fun p14 hp14 => ?_)
            refine lw_op rfl rfl rfl (ow_load (R := RInt) rfl rfl hp14 (Tryd.sizeOf3 _) (Tryd.isAgg3 _) fun v28 hv28 => ?_)
            obtain rfl := vint_eq hv28
            refine lw_op rfl rfl rfl (ow_fieldAddr rfl rfl Tryd.underlying38 rfl (Tryd.sizeOf3 _) ?_)
            refine lw_op0 rfl rfl (ow_store (X := (One g)) (us := [(.int .i64 x28)]) (cs' := #[(.int .i64 x1.1), (.int .i64 x2.1), (.int .i64 x28), (.int .i64 x4.1)]) rfl rfl rfl rfl ho136 (Tryd.sizeOf3 _) rfl rfl rfl rfl hm5 (.inl hg4) rfl hC47 fun w48 ho137 hb48 hl48 hC48 => ?_)
            have ho138 := ho134.go hb48 (fun e => hn2 e)
            have ho139 := ho135.go hb48 (fun e => hn3 e)
            refine lw_nil ?_
            refine ew_blockN ?_
            refine ew_then ?_
            refine cw_seq ?_
            refine cw_region ?_
            refine lw_op rfl rfl rfl (ow_loadOwnA rfl rfl rfl ho137 (Tryd.isAgg38 _) (Tryd.sizeOf38 _) rfl ?_)
            have hw23 : VRep RPacket w48 (Add g2 (Add g1 M)) ({ From := x1.1, To := x2.1, Port := x28, Proto := x4.1 } : Packet) (.agg #[(.int .i64 x1.1), (.int .i64 x2.1), (.int .i64 x28), (.int .i64 x4.1)]) := shut_Packet
            refine lw_op0 rfl rfl (ow_store (X := (One g)) (us := [(.int .i64 x1.1), (.int .i64 x2.1), (.int .i64 x28), (.int .i64 x4.1)]) (cs' := #[(.int .i64 x1.1), (.int .i64 x2.1), (.int .i64 x28), (.int .i64 x4.1)]) rfl rfl rfl rfl ho139 (Tryd.sizeOf38 _) rfl rfl rfl rfl hm4 (.inl hg2) rfl hC48 fun w49 ho140 hb49 hl49 hC49 => ?_)
            have ho141 := ho138.go hb49 (fun e => hn1 e)
            have ho142 := ho137.go hb49 (fun e => hn3 e.symm)
            refine lw_nil ?_
            refine ew_then ?_
            refine cw_ret ?_
            have hw24 : VRep RPacket w49 (Add g2 (Add g1 M)) ({ From := x1.1, To := x2.1, Port := x28, Proto := x4.1 } : Packet) (.agg #[(.int .i64 x1.1), (.int .i64 x2.1), (.int .i64 x28), (.int .i64 x4.1)]) := shut_Packet
            obtain rfl := Option.some.inj h
            exact ew_ret (res1 rfl (.cell rfl (own_loadVarA ho140 (Tryd.isAgg38 _) (Tryd.sizeOf38 _) rfl))) ⟨_, rfl, ⟨(hw24.mono hC49.back), ho141⟩, hC49.bx⟩
          · obtain rfl := hbb9.trans hc9
            refine cw_false rfl ?_
            refine cw_region ?_
            refine lw_op rfl rfl rfl (ow_buildSlice (R := RInt) (xs := [(-1), 8]) (cs := #[(.int .i64 (-1)), (.int .i64 8)]) (e := 3) rfl rfl (by kernel_rfl) rfl rfl ⟨_, _, rfl, (vint _).cells, _, _, rfl, (vint _).cells, rfl⟩ hC37 fun p15 w50 hw25 hb50 hl50 hC50 => ?_)
            have ho143 := ho104.no hb50
            have ho144 := ho105.no hb50
            have ho145 := ho106.no hb50
            refine lw_op rfl rfl rfl (ow_move rfl rfl ?_)
            replace h := bind_some h
            obtain ⟨x29, hx29, h⟩ := h
            refine lw_op rfl rfl rfl (ow_call rfl rfl Tryd.call114 (w_spec_l20Rd_pick (hG.mono ((((((((((hl1.trans hl2).trans hl3).trans hl4).trans hl5).trans hl6).trans hl7).trans hl8).trans hl36).trans hl37).trans hl50)) hC50.old (VRep.mono ((((((((((hl1.trans hl2).trans hl3).trans hl4).trans hl5).trans hl6).trans hl7).trans hl8).trans hl36).trans hl37).trans hl50) hxs) ho143 hm3 hx29) fun v29 w51 hv29 => ?_)
            obtain ⟨⟨hv29, ho146⟩, hb51⟩ := hv29
            have hl51 := Le.of_bx (Add g2 (Add g1 M)) hb51 (fun b e => (by rw [show b = g from e]; exact hm3))
            have hC51 := hC50.go hb51 (fun b e => Or.inr e)
            have ho147 := ho144.go hb51 (fun e => hn1 e.symm)
            have ho148 := ho145.go hb51 (fun e => hn2 e.symm)
            obtain rfl := vint_eq hv29
            replace h := bind_some h
            obtain ⟨x30, hx30, h⟩ := h
            refine lw_op rfl rfl rfl (ow_indexSlice (R := RInt) rfl rfl rfl (VRep.mono hl51 hw25) Tryd.underlying122 (Tryd.sizeOf3 _) hx30 fun p16 hp16 => ?_)
            refine lw_op rfl rfl rfl (ow_load (R := RInt) rfl rfl hp16 (Tryd.sizeOf3 _) (Tryd.isAgg3 _) fun v30 hv30 => ?_)
            obtain rfl := vint_eq hv30
            refine lw_op rfl rfl rfl (ow_fieldAddr rfl rfl Tryd.underlying38 rfl (Tryd.sizeOf3 _) ?_)
            refine lw_op0 rfl rfl (ow_store (X := (One g)) (us := [(.int .i64 x30)]) (cs' := #[(.int .i64 x1.1), (.int .i64 x2.1), (.int .i64 x3.1), (.int .i64 x30)]) rfl rfl rfl rfl ho148 (Tryd.sizeOf3 _) rfl rfl rfl rfl hm5 (.inl hg4) rfl hC51 fun w52 ho149 hb52 hl52 hC52 => ?_)
            have ho150 := ho146.go hb52 (fun e => hn2 e)
            have ho151 := ho147.go hb52 (fun e => hn3 e)
            refine lw_nil ?_
            refine ew_blockN ?_
            refine ew_then ?_
            refine cw_seq ?_
            refine cw_region ?_
            refine lw_op rfl rfl rfl (ow_loadOwnA rfl rfl rfl ho149 (Tryd.isAgg38 _) (Tryd.sizeOf38 _) rfl ?_)
            have hw26 : VRep RPacket w52 (Add g2 (Add g1 M)) ({ From := x1.1, To := x2.1, Port := x3.1, Proto := x30 } : Packet) (.agg #[(.int .i64 x1.1), (.int .i64 x2.1), (.int .i64 x3.1), (.int .i64 x30)]) := shut_Packet
            refine lw_op0 rfl rfl (ow_store (X := (One g)) (us := [(.int .i64 x1.1), (.int .i64 x2.1), (.int .i64 x3.1), (.int .i64 x30)]) (cs' := #[(.int .i64 x1.1), (.int .i64 x2.1), (.int .i64 x3.1), (.int .i64 x30)]) rfl rfl rfl rfl ho151 (Tryd.sizeOf38 _) rfl rfl rfl rfl hm4 (.inl hg2) rfl hC52 fun w53 ho152 hb53 hl53 hC53 => ?_)
            have ho153 := ho150.go hb53 (fun e => hn1 e)
            have ho154 := ho149.go hb53 (fun e => hn3 e.symm)
            refine lw_nil ?_
            refine ew_then ?_
            refine cw_ret ?_
            have hw27 : VRep RPacket w53 (Add g2 (Add g1 M)) ({ From := x1.1, To := x2.1, Port := x3.1, Proto := x30 } : Packet) (.agg #[(.int .i64 x1.1), (.int .i64 x2.1), (.int .i64 x3.1), (.int .i64 x30)]) := shut_Packet
            obtain rfl := Option.some.inj h
            exact ew_ret (res1 rfl (.cell rfl (own_loadVarA ho152 (Tryd.isAgg38 _) (Tryd.sizeOf38 _) rfl))) ⟨_, rfl, ⟨(hw27.mono hC53.back), ho153⟩, hC53.bx⟩
    · obtain rfl := hbb6.trans hc6
      refine cw_false rfl ?_
      refine cw_skip ?_
      refine ew_then ?_
      refine cw_seq ?_
      refine cw_region ?_
      refine lw_op rfl rfl rfl (ow_loadOwnA rfl rfl rfl ho103 (Tryd.isAgg38 _) (Tryd.sizeOf38 _) rfl ?_)
      have hw28 : VRep RPacket w36 (Add g2 (Add g1 M)) ({ From := x1.1, To := x2.1, Port := x3.1, Proto := x4.1 } : Packet) (.agg #[(.int .i64 x1.1), (.int .i64 x2.1), (.int .i64 x3.1), (.int .i64 x4.1)]) := shut_Packet
      refine lw_op0 rfl rfl (ow_store (X := (One g)) (us := [(.int .i64 x1.1), (.int .i64 x2.1), (.int .i64 x3.1), (.int .i64 x4.1)]) (cs' := #[(.int .i64 x1.1), (.int .i64 x2.1), (.int .i64 x3.1), (.int .i64 x4.1)]) rfl rfl rfl rfl ho102 (Tryd.sizeOf38 _) rfl rfl rfl rfl hm4 (.inl hg2) rfl hC36 fun w54 ho155 hb54 hl54 hC54 => ?_)
      have ho156 := ho101.go hb54 (fun e => hn1 e)
      have ho157 := ho103.go hb54 (fun e => hn3 e.symm)
      refine lw_nil ?_
      refine ew_then ?_
      refine cw_ret ?_
      have hw29 : VRep RPacket w54 (Add g2 (Add g1 M)) ({ From := x1.1, To := x2.1, Port := x3.1, Proto := x4.1 } : Packet) (.agg #[(.int .i64 x1.1), (.int .i64 x2.1), (.int .i64 x3.1), (.int .i64 x4.1)]) := shut_Packet
      obtain rfl := Option.some.inj h
      exact ew_ret (res1 rfl (.cell rfl (own_loadVarA ho155 (Tryd.isAgg38 _) (Tryd.sizeOf38 _) rfl))) ⟨_, rfl, ⟨(hw29.mono hC54.back), ho156⟩, hC54.bx⟩

theorem w_spec_l20Open {w : World} {M : Nat → Prop} (_hG : ARep (RArr 4 RShape) w M shapes ⟨0, 0, none⟩) (hO : ∀ b, M b → b < w.heap.size) {v0p : Value} {a_code : List Int} (h0 : VRep (RSlice RU8) w M a_code v0p) {r : List Int × Int} (h : F.spec_l20Open a_code = some r) :
    Calls Tryd.prog 81 [v0p].toArray w fun e w' => ∃ v, e = .returned v ∧ (∃ g A c, v = .pointer (some ⟨g, 0, none⟩) ∧ w.heap.size ≤ g ∧ Own w' g 142 #[.slice A r.1.length c, .int .i64 r.2] ∧ VRep (RSlice RU8) w' (Add g M) r.1 (.slice A r.1.length c)) ∧ BX No w w' := by
  have hC : Cx No w M w M := Cx.start hO (fun _ e => e.elim)
  clear _hG
  refine walk (N := 11) Tryd.func81 rfl Tryd.ntmps81 rfl ?_
  refine cw_seq ?_
  refine cw_region ?_
  refine lw_op rfl rfl rfl (ow_assign rfl rfl ?_)
  refine lw_nil ?_
  refine ew_then ?_
  refine cw_seq ?_
  refine cw_seq ?_
  refine cw_region ?_
  refine lw_op rfl rfl rfl (ow_move rfl rfl ?_)
  refine lw_op rfl rfl rfl (ow_len rfl rfl h0 Tryd.underlying36 rfl ?_)
  refine lw_op rfl rfl rfl (ow_gtr rfl rfl rfl fun bb1 hbb1 => ?_)
  refine lw_nil ?_
  refine ew_then ?_
  replace h := cond_some h
  rcases h with ⟨hc1, h⟩ | ⟨hc1, h⟩
  · obtain rfl := hbb1.trans hc1
    refine cw_true rfl ?_
    refine cw_region ?_
    refine lw_op rfl rfl rfl (ow_move rfl rfl ?_)
    replace h := bind_some h
    obtain ⟨y1, hy1, h⟩ := h
    refine lw_op rfl rfl rfl (ow_sliceTo (R := RU8) rfl rfl rfl h0 Tryd.underlying36 (Tryd.sizeOf5 _) (takeF_some hy1).2 fun v1 hv1 => ?_)
    rw [← (takeF_some hy1).1] at hv1
    refine lw_op rfl rfl rfl (ow_assign rfl rfl ?_)
    refine lw_nil ?_
    refine ew_then ?_
    refine cw_seq ?_
    refine cw_region ?_
    refine lw_op rfl rfl rfl (ow_move rfl rfl ?_)
    obtain ⟨A1, c1, rfl, -⟩ := vslice_shape hv1
    refine lw_op rfl rfl rfl (ow_build (v := .agg #[(.slice A1 y1.length c1), (.int .i64 0)]) rfl rfl (by kernel_rfl) ?_)
    have hw1 : VRep Rl20Rd w M ({ b := y1, p := 0 } : l20Rd) (.agg #[(.slice A1 y1.length c1), (.int .i64 0)]) := shut_l20Rd hv1
    refine lw_op rfl rfl rfl (ow_boxOwn rfl rfl hC fun g1 w1 hg1 hg2 ho1 hb1 hl1 hC1 => ?_)
    have hm1 : (Add g1 M) g1 := .inl rfl
    refine lw_op rfl rfl rfl (ow_assign rfl rfl ?_)
    refine lw_nil ?_
    refine ew_then ?_
    refine cw_ret ?_
    obtain rfl := Option.some.inj h
    exact ew_ret (res1 rfl (.tmp rfl)) ⟨_, rfl, ⟨_, _, _, rfl, hg2, ho1, (VRep.mono hl1 hv1)⟩, hC1.bx⟩
  · obtain rfl := hbb1.trans hc1
    refine cw_false rfl ?_
    refine cw_skip ?_
    refine ew_then ?_
    refine cw_seq ?_
    refine cw_region ?_
    refine lw_op rfl rfl rfl (ow_move rfl rfl ?_)
    obtain ⟨A2, c2, rfl, -⟩ := vslice_shape h0
    refine lw_op rfl rfl rfl (ow_build (v := .agg #[(.slice A2 a_code.length c2), (.int .i64 0)]) rfl rfl (by kernel_rfl) ?_)
    have hw2 : VRep Rl20Rd w M ({ b := a_code, p := 0 } : l20Rd) (.agg #[(.slice A2 a_code.length c2), (.int .i64 0)]) := shut_l20Rd h0
    refine lw_op rfl rfl rfl (ow_boxOwn rfl rfl hC fun g2 w2 hg3 hg4 ho2 hb2 hl2 hC2 => ?_)
    have hm2 : (Add g2 M) g2 := .inl rfl
    refine lw_op rfl rfl rfl (ow_assign rfl rfl ?_)
    refine lw_nil ?_
    refine ew_then ?_
    refine cw_ret ?_
    obtain rfl := Option.some.inj h
    exact ew_ret (res1 rfl (.tmp rfl)) ⟨_, rfl, ⟨_, _, _, rfl, hg4, ho2, (VRep.mono hl2 h0)⟩, hC2.bx⟩

theorem w_spec_DrawPacketValid {w : World} {M : Nat → Prop} (hG : ARep (RArr 4 RShape) w M shapes ⟨0, 0, none⟩) (hO : ∀ b, M b → b < w.heap.size) {v0p : Value} {a_code : List Int} (h0 : VRep (RSlice RU8) w M a_code v0p) {r : Packet} (h : F.spec_DrawPacketValid a_code = some r) :
    Calls Tryd.prog 27 [v0p].toArray w fun e w' => ∃ v, e = .returned v ∧ VRep RPacket w' M r v ∧ BX No w w' := by
  have hC : Cx No w M w M := Cx.start hO (fun _ e => e.elim)
  refine walk (N := 6) Tryd.func27 rfl Tryd.ntmps27 rfl ?_
  refine cw_seq ?_
  refine cw_region ?_
  refine lw_op rfl rfl rfl (ow_alloc rfl (Tryd.zeroValue38 _) hC fun g1 w1 hg1 hg2 ho1 hb1 hl1 hC1 => ?_)
  have hm1 : (Add g1 M) g1 := .inl rfl
  refine lw_nil ?_
  refine ew_then ?_
  refine cw_seq ?_
  refine cw_region ?_
  refine lw_op rfl rfl rfl (ow_move rfl rfl ?_)
  replace h := bind_some h
  obtain ⟨x1, hx1, h⟩ := h
  refine lw_op rfl rfl rfl (ow_call rfl rfl Tryd.call81 (w_spec_l20Open (hG.mono hl1) hC1.old (VRep.mono hl1 h0) hx1) fun v1 w2 hv1 => ?_)
  obtain ⟨⟨g2, A1, c1, rfl, hg3, ho2, hw1⟩, hb2⟩ := hv1
  have hl2 := (Le.no (Add g1 M) hb2).add hg3
  have hg4 := Nat.le_trans hC1.bx.size hg3
  have hC2 := (hC1.no hb2).add ho2.lt hg4
  have hn1 := Nat.ne_of_lt (Nat.lt_of_lt_of_le ho1.lt hg3)
  have ho3 := ho1.no hb2
  have hm2 : (Add g2 (Add g1 M)) g1 := .inr hm1
  have hm3 : (Add g2 (Add g1 M)) g2 := .inl rfl
  replace h := bind_some h
  obtain ⟨x2, hx2, h⟩ := h
  refine lw_op rfl rfl rfl (ow_call rfl rfl Tryd.call80 (w_spec_l20Packet (hG.mono (hl1.trans hl2)) hC2.old hw1 ho2 hm3 hx2) fun v2 w3 hv2 => ?_)
  obtain ⟨⟨hv2, ho4⟩, hb3⟩ := hv2
  have hl3 := Le.of_bx (Add g2 (Add g1 M)) hb3 (fun b e => (by rw [show b = g2 from e]; exact hm3))
  have hC3 := hC2.go hb3 (fun b e => Or.inl (by rw [show b = g2 from e]; exact hg4))
  have ho5 := ho3.go hb3 (fun e => hn1 e)
  obtain rfl := open_Packet hv2
  refine lw_op0 rfl rfl (ow_store (X := No) (us := [(.int .i64 x2.1.From), (.int .i64 x2.1.To), (.int .i64 x2.1.Port), (.int .i64 x2.1.Proto)]) (cs' := #[(.int .i64 x2.1.From), (.int .i64 x2.1.To), (.int .i64 x2.1.Port), (.int .i64 x2.1.Proto)]) rfl rfl rfl rfl ho5 (Tryd.sizeOf38 _) rfl rfl rfl rfl hm2 (.inl hg2) rfl hC3 fun w4 ho6 hb4 hl4 hC4 => ?_)
  have ho7 := ho4.go hb4 (fun e => hn1 e.symm)
  refine lw_nil ?_
  refine ew_then ?_
  refine cw_ret ?_
  have hw2 : VRep RPacket w4 (Add g2 (Add g1 M)) ({ From := x2.1.From, To := x2.1.To, Port := x2.1.Port, Proto := x2.1.Proto } : Packet) (.agg #[(.int .i64 x2.1.From), (.int .i64 x2.1.To), (.int .i64 x2.1.Port), (.int .i64 x2.1.Proto)]) := shut_Packet
  obtain rfl := Option.some.inj h
  exact ew_ret (res1 rfl (.cell rfl (own_loadVarA ho6 (Tryd.isAgg38 _) (Tryd.sizeOf38 _) rfl))) ⟨_, rfl, (hw2.mono hC4.back), hC4.bx⟩

theorem w_impl_Packet_fields {w : World} {M : Nat → Prop} (_hG : ARep (RArr 4 RShape) w M shapes ⟨0, 0, none⟩) (hO : ∀ b, M b → b < w.heap.size) {v0p : Value} {a_p : Packet} (h0 : VRep RPacket w M a_p v0p) {r : (List Int)} (h : F.impl_Packet_fields a_p = some r) :
    Calls Tryd.prog 116 [v0p].toArray w fun e w' => ∃ v, e = .returned v ∧ VRep (RArr 4 RInt) w' M r v ∧ BX No w w' := by
  have hC : Cx No w M w M := Cx.start hO (fun _ e => e.elim)
  clear _hG
  refine walk (N := 12) Tryd.func116 rfl Tryd.ntmps116 rfl ?_
  refine cw_seq ?_
  refine cw_region ?_
  refine lw_op rfl rfl rfl (ow_box (R := RPacket) rfl rfl h0 hC fun p1 w1 hp1 hb1 hl1 hC1 => ?_)
  refine lw_op rfl rfl rfl (ow_alloc rfl (Tryd.zeroValue143 _) hC1 fun g1 w2 hg1 hg2 ho1 hb2 hl2 hC2 => ?_)
  have hm1 : (Add g1 M) g1 := .inl rfl
  have ho2 : OwnA (RArr 4 RInt) w2 (Add g1 M) g1 143 [0, 0, 0, 0] := OwnA.of ho1 ⟨rfl, ⟨_, _, rfl, (vint _).cells, _, _, rfl, (vint _).cells, _, _, rfl, (vint _).cells, _, _, rfl, (vint _).cells, rfl⟩⟩
  refine lw_nil ?_
  refine ew_then ?_
  refine cw_seq ?_
  refine cw_region ?_
  refine lw_op rfl rfl rfl (ow_fieldAddr rfl rfl Tryd.underlying38 rfl (Tryd.sizeOf3 _) ?_)
  refine lw_op rfl rfl rfl (ow_load (R := RInt) rfl rfl (ARep.mono hl2 (hp1.fld fld_Packet_From)) (Tryd.sizeOf3 _) (Tryd.isAgg3 _) fun v1 hv1 => ?_)
  obtain rfl := vint_eq hv1
  refine lw_op rfl rfl rfl (ow_fieldAddr rfl rfl Tryd.underlying38 rfl (Tryd.sizeOf3 _) ?_)
  refine lw_op rfl rfl rfl (ow_load (R := RInt) rfl rfl (ARep.mono hl2 (hp1.fld fld_Packet_To)) (Tryd.sizeOf3 _) (Tryd.isAgg3 _) fun v2 hv2 => ?_)
  obtain rfl := vint_eq hv2
  refine lw_op rfl rfl rfl (ow_fieldAddr rfl rfl Tryd.underlying38 rfl (Tryd.sizeOf3 _) ?_)
  refine lw_op rfl rfl rfl (ow_load (R := RInt) rfl rfl (ARep.mono hl2 (hp1.fld fld_Packet_Port)) (Tryd.sizeOf3 _) (Tryd.isAgg3 _) fun v3 hv3 => ?_)
  obtain rfl := vint_eq hv3
  refine lw_op rfl rfl rfl (ow_fieldAddr rfl rfl Tryd.underlying38 rfl (Tryd.sizeOf3 _) ?_)
  refine lw_op rfl rfl rfl (ow_load (R := RInt) rfl rfl (ARep.mono hl2 (hp1.fld fld_Packet_Proto)) (Tryd.sizeOf3 _) (Tryd.isAgg3 _) fun v4 hv4 => ?_)
  obtain rfl := vint_eq hv4
  refine lw_op rfl rfl rfl (ow_build (v := .agg #[(.int .i64 a_p.From), (.int .i64 a_p.To), (.int .i64 a_p.Port), (.int .i64 a_p.Proto)]) rfl rfl (by kernel_rfl) ?_)
  have hw1 : VRep (RArr 4 RInt) w2 (Add g1 M) [a_p.From, a_p.To, a_p.Port, a_p.Proto] (.agg #[(.int .i64 a_p.From), (.int .i64 a_p.To), (.int .i64 a_p.Port), (.int .i64 a_p.Proto)]) := ⟨_, ⟨rfl, ⟨_, _, rfl, (vint _).cells, _, _, rfl, (vint _).cells, _, _, rfl, (vint _).cells, _, _, rfl, (vint _).cells, rfl⟩⟩, rfl⟩
  obtain ⟨cs1, h1, h2⟩ := ho2.own
  refine lw_op0 rfl rfl (ow_storeA (X := No) (R := (RArr 4 RInt)) rfl rfl rfl rfl h1 h2 (Tryd.sizeOf143 _) hw1 hm1 (.inl hg2) hC2 fun w3 ho3 hb3 hl3 hC3 => ?_)
  refine lw_nil ?_
  refine ew_then ?_
  refine cw_ret ?_
  obtain rfl := Option.some.inj h
  obtain ⟨v5, hq1, hw2⟩ := resA ho3 (Tryd.sizeOf143 _) (Tryd.isAgg143 _) rfl
  exact ew_ret (res1 rfl (.cell rfl hq1)) ⟨_, rfl, (hw2.mono hC3.back), hC3.bx⟩

theorem w_impl_PacketValid {w : World} {M : Nat → Prop} (hG : ARep (RArr 4 RShape) w M shapes ⟨0, 0, none⟩) (hO : ∀ b, M b → b < w.heap.size) {v0p : Value} {a_p : Packet} (h0 : VRep RPacket w M a_p v0p) {r : Bool} (h : F.impl_PacketValid a_p = some r) :
    Calls Tryd.prog 82 [v0p].toArray w fun e w' => ∃ v, e = .returned v ∧ VRep RBool w' M r v ∧ BX No w w' := by
  have hC : Cx No w M w M := Cx.start hO (fun _ e => e.elim)
  refine walk (N := 20) Tryd.func82 rfl Tryd.ntmps82 rfl ?_
  refine cw_seq ?_
  refine cw_region ?_
  refine lw_op rfl rfl rfl (ow_box (R := RPacket) rfl rfl h0 hC fun p1 w1 hp1 hb1 hl1 hC1 => ?_)
  refine lw_op rfl rfl rfl (ow_assign rfl rfl ?_)
  refine lw_nil ?_
  refine ew_then ?_
  refine cw_seq ?_
  refine cw_seq ?_
  refine cw_region ?_
  refine lw_op rfl rfl rfl (ow_load (R := RPacket) rfl rfl hp1 (Tryd.sizeOf38 _) (Tryd.isAgg38 _) fun v1 hv1 => ?_)
  replace h := bind_some h
  obtain ⟨x1, hx1, h⟩ := h
  refine lw_op rfl rfl rfl (ow_call rfl rfl Tryd.call116 (w_impl_Packet_fields (hG.mono hl1) hC1.old hv1 hx1) fun v2 w2 hv2 => ?_)
  obtain ⟨hv2, hb2⟩ := hv2
  have hl2 := Le.no M hb2
  have hC2 := hC1.no hb2
  refine lw_op rfl rfl rfl (ow_move rfl rfl ?_)
  refine lw_nil ?_
  refine ew_then ?_
  replace h := bind_some h
  obtain ⟨lr1, hlr1, h⟩ := h
  refine cw_for hlr1 (fun s a w' => ∃ (M' : Nat → Prop), Fits 20 [(6, v2), (7, (.int .i64 s))] a ∧ Le w2 M w' M' ∧ Cx No w M w' M') ?_ ?_ ?_
  · intro a ha
    exact ⟨M, ha.sub ⟨rfl, rfl, trivial⟩, Le.refl _ _, hC2⟩
  · rintro k1 a w3 sr1 ⟨M1, hF1, hl3, hC3⟩ hb3 hR1
    refine cw_at (E := [(6, v2), (7, (.int .i64 k1))]) hF1 ?_
    refine cw_seq ?_
    refine cw_region ?_
    refine lw_op rfl rfl rfl (ow_lss rfl rfl rfl fun bb1 hbb1 => ?_)
    refine lw_nil ?_
    refine ew_then ?_
    refine cw_seq ?_
    replace hb3 := cond_some hb3
    rcases hb3 with ⟨hc1, hb3⟩ | ⟨hc1, hb3⟩
    · obtain rfl := hbb1.trans hc1
      refine cw_true rfl ?_
      refine cw_skip ?_
      refine ew_then ?_
      refine cw_seq ?_
      refine cw_block ?_
      refine cw_seq ?_
      refine cw_region ?_
      refine lw_op rfl rfl rfl (ow_move rfl rfl ?_)
      replace hb3 := bind_some hb3
      obtain ⟨x2, hx2, hb3⟩ := hb3
      refine lw_op rfl rfl rfl (ow_index (R := RInt) rfl rfl rfl (VRep.mono hl3 hv2) Tryd.underlying143 (Tryd.sizeOf3 _) (Tryd.isAgg3 _) hx2 fun v4 hv4 => ?_)
      obtain rfl := vint_eq hv4
      refine lw_op rfl rfl rfl (ow_assign rfl rfl ?_)
      refine lw_op rfl rfl rfl (ow_assign rfl rfl ?_)
      refine lw_nil ?_
      refine ew_then ?_
      refine cw_seq ?_
      refine cw_region ?_
      refine lw_op rfl rfl rfl (ow_move rfl rfl ?_)
      refine lw_op rfl rfl rfl (ow_lss rfl rfl rfl fun bb2 hbb2 => ?_)
      refine lw_op rfl rfl rfl (ow_move rfl rfl ?_)
      replace hb3 := cond_some hb3
      rcases hb3 with ⟨hc2, hb3⟩ | ⟨hc2, hb3⟩
      · obtain rfl := hbb2.trans hc2
        refine lw_off rfl rfl rfl rfl rfl rfl ?_
        refine lw_off rfl rfl rfl rfl rfl rfl ?_
        refine lw_off rfl rfl rfl rfl rfl rfl ?_
        refine lw_off rfl rfl rfl rfl rfl rfl ?_
        refine lw_op rfl rfl rfl (ow_pickT rfl rfl rfl ?_)
        refine lw_nil ?_
        refine ew_then ?_
        refine cw_true rfl ?_
        refine cw_seq ?_
        refine cw_region ?_
        refine lw_op rfl rfl rfl (ow_assign rfl rfl ?_)
        refine lw_nil ?_
        refine ew_then ?_
        refine cw_ret ?_
        refine ew_blockR ?_
        refine ew_thenR ?_
        refine ew_thenR ?_
        refine ew_blockR ?_
        refine ew_brkR ?_
        refine ew_thenR ?_
        have e1 := hR1 _ (Option.some.inj hb3).symm
        subst e1
        obtain rfl := Option.some.inj h
        exact ew_ret (res1 rfl (.tmp rfl)) ⟨_, rfl, ((vbool _)), hC3.bx⟩
      · obtain rfl := hbb2.trans hc2
        refine lw_on rfl rfl rfl rfl rfl rfl (ow_move rfl rfl ?_)
        refine lw_on rfl rfl rfl rfl rfl rfl (ow_move rfl rfl ?_)
        replace hb3 := bind_some hb3
        obtain ⟨x3, hx3, hb3⟩ := hb3
        refine lw_on rfl rfl rfl rfl rfl rfl (ow_call rfl rfl Tryd.call75 (w_impl_FieldTop (hG.mono ((hl1.trans hl2).trans hl3)) hC3.old hx3) fun v5 w4 hv5 => ?_)
        obtain ⟨hv5, hb4⟩ := hv5
        have hl4 := Le.no M1 hb4
        have hC4 := hC3.no hb4
        obtain rfl := vint_eq hv5
        refine lw_on rfl rfl rfl rfl rfl rfl (ow_gtr rfl rfl rfl fun bb3 hbb3 => ?_)
        refine lw_op rfl rfl rfl (ow_pickF rfl rfl rfl ?_)
        refine lw_nil ?_
        refine ew_then ?_
        replace hb3 := cond_some hb3
        rcases hb3 with ⟨hc3, hb3⟩ | ⟨hc3, hb3⟩
        · obtain rfl := hbb3.trans hc3
          refine cw_true rfl ?_
          refine cw_seq ?_
          refine cw_region ?_
          refine lw_op rfl rfl rfl (ow_assign rfl rfl ?_)
          refine lw_nil ?_
          refine ew_then ?_
          refine cw_ret ?_
          refine ew_blockR ?_
          refine ew_thenR ?_
          refine ew_thenR ?_
          refine ew_blockR ?_
          refine ew_brkR ?_
          refine ew_thenR ?_
          have e2 := hR1 _ (Option.some.inj hb3).symm
          subst e2
          obtain rfl := Option.some.inj h
          exact ew_ret (res1 rfl (.tmp rfl)) ⟨_, rfl, ((vbool _)), hC4.bx⟩
        · obtain rfl := hbb3.trans hc3
          refine cw_false rfl ?_
          refine cw_skip ?_
          refine ew_blockN ?_
          refine ew_then ?_
          refine cw_region ?_
          refine lw_op rfl rfl rfl (ow_add rfl rfl rfl ?_)
          refine lw_op rfl rfl rfl (ow_move rfl rfl ?_)
          refine lw_nil ?_
          refine ew_nxt (W (k1 + 1)) hb3 fun a ha => ⟨M1, ?_, (hl3.trans hl4), hC4⟩
          exact ha.sub ⟨rfl, rfl, trivial⟩
    · obtain rfl := hbb1.trans hc1
      refine cw_false rfl ?_
      refine cw_exit ?_
      refine ew_thenX ?_
      refine ew_thenX ?_
      refine ew_blockX ?_
      refine ew_brk k1 hb3 fun a ha => ⟨M1, ?_, hl3, hC3⟩
      exact ha.sub ⟨rfl, rfl, trivial⟩
  · rintro k2 a w5 hlr2 ⟨M2, hF2, hl5, hC5⟩
    subst hlr2
    refine ew_at (E := [(6, v2), (7, (.int .i64 k2))]) hF2 ?_
    refine ew_then ?_
    refine cw_seq ?_
    refine cw_region ?_
    refine lw_op rfl rfl rfl (ow_assign rfl rfl ?_)
    refine lw_nil ?_
    refine ew_then ?_
    refine cw_ret ?_
    obtain rfl := Option.some.inj h
    exact ew_ret (res1 rfl (.tmp rfl)) ⟨_, rfl, ((vbool _)), hC5.bx⟩

theorem w_impl_SpansHave {w : World} {M : Nat → Prop} (_hG : ARep (RArr 4 RShape) w M shapes ⟨0, 0, none⟩) (hO : ∀ b, M b → b < w.heap.size) {v0p : Value} {a_list : List Span} (h0 : VRep (RSlice RSpan) w M a_list v0p) {a_n : Int} {r : Bool} (h : F.impl_SpansHave a_list a_n = some r) :
    Calls Tryd.prog 85 [v0p, (.int .i64 a_n)].toArray w fun e w' => ∃ v, e = .returned v ∧ VRep RBool w' M r v ∧ BX No w w' := by
  have hC : Cx No w M w M := Cx.start hO (fun _ e => e.elim)
  clear _hG
  refine walk (N := 24) Tryd.func85 rfl Tryd.ntmps85 rfl ?_
  refine cw_seq ?_
  refine cw_region ?_
  refine lw_op rfl rfl rfl (ow_assign rfl rfl ?_)
  refine lw_nil ?_
  refine ew_then ?_
  refine cw_seq ?_
  refine cw_seq ?_
  refine cw_region ?_
  refine lw_op rfl rfl rfl (ow_move rfl rfl ?_)
  refine lw_op rfl rfl rfl (ow_len rfl rfl h0 Tryd.underlying93 rfl ?_)
  refine lw_op rfl rfl rfl (ow_move rfl rfl ?_)
  refine lw_nil ?_
  refine ew_then ?_
  replace h := bind_some h
  obtain ⟨lr1, hlr1, h⟩ := h
  refine cw_for hlr1 (fun s a w' => ∃ (M' : Nat → Prop), Fits 24 [(1, (.int .i64 a_n)), (7, v0p), (8, (.int .i64 (a_list.length : Int))), (9, (.int .i64 s))] a ∧ Le w M w' M' ∧ Cx No w M w' M') ?_ ?_ ?_
  · intro a ha
    exact ⟨M, ha.sub ⟨rfl, rfl, rfl, rfl, trivial⟩, Le.refl _ _, hC⟩
  · rintro k1 a w1 sr1 ⟨M1, hF1, hl1, hC1⟩ hb1 hR1
    refine cw_at (E := [(1, (.int .i64 a_n)), (7, v0p), (8, (.int .i64 (a_list.length : Int))), (9, (.int .i64 k1))]) hF1 ?_
    refine cw_seq ?_
    refine cw_region ?_
    refine lw_op rfl rfl rfl (ow_lss rfl rfl rfl fun bb1 hbb1 => ?_)
    refine lw_nil ?_
    refine ew_then ?_
    refine cw_seq ?_
    replace hb1 := cond_some hb1
    rcases hb1 with ⟨hc1, hb1⟩ | ⟨hc1, hb1⟩
    · obtain rfl := hbb1.trans hc1
      refine cw_true rfl ?_
      refine cw_skip ?_
      refine ew_then ?_
      refine cw_seq ?_
      refine cw_block ?_
      refine cw_seq ?_
      refine cw_region ?_
      replace hb1 := bind_some hb1
      obtain ⟨x1, hx1, hb1⟩ := hb1
      refine lw_op rfl rfl rfl (ow_indexSlice (R := RSpan) rfl rfl rfl (VRep.mono hl1 h0) Tryd.underlying93 (Tryd.sizeOf92 _) hx1 fun p1 hp1 => ?_)
      refine lw_op rfl rfl rfl (ow_load (R := RSpan) rfl rfl hp1 (Tryd.sizeOf92 _) (Tryd.isAgg92 _) fun v2 hv2 => ?_)
      refine lw_allocStore (R := RSpan) rfl rfl rfl rfl rfl rfl rfl Tryd.zeroValue92 Tryd.sizeOf92 rfl rfl rfl (by simp) hv2 hC1 fun p2 w2 hp2 hb2 hl2 hC2 => ?_
      refine lw_nil ?_
      refine ew_then ?_
      refine cw_seq ?_
      refine cw_region ?_
      refine lw_op rfl rfl rfl (ow_fieldAddr rfl rfl Tryd.underlying92 rfl (Tryd.sizeOf3 _) ?_)
      refine lw_op rfl rfl rfl (ow_load (R := RInt) rfl rfl (hp2.fld fld_Span_Lo) (Tryd.sizeOf3 _) (Tryd.isAgg3 _) fun v3 hv3 => ?_)
      obtain rfl := vint_eq hv3
      refine lw_op rfl rfl rfl (ow_move rfl rfl ?_)
      refine lw_op rfl rfl rfl (ow_leq rfl rfl rfl fun bb2 hbb2 => ?_)
      refine lw_op rfl rfl rfl (ow_move rfl rfl ?_)
      replace hb1 := cond_some hb1
      rcases hb1 with ⟨hc2, hb1⟩ | ⟨hc2, hb1⟩
      · obtain rfl := hbb2.trans hc2
        refine lw_on rfl rfl rfl rfl rfl rfl (ow_move rfl rfl ?_)
        refine lw_on rfl rfl rfl rfl rfl rfl (ow_fieldAddr rfl rfl Tryd.underlying92 rfl (Tryd.sizeOf3 _) ?_)
        refine lw_on rfl rfl rfl rfl rfl rfl (ow_load (R := RInt) rfl rfl (hp2.fld fld_Span_Hi) (Tryd.sizeOf3 _) (Tryd.isAgg3 _) fun v4 hv4 => ?_)
        obtain rfl := vint_eq hv4
        refine lw_on rfl rfl rfl rfl rfl rfl (ow_leq rfl rfl rfl fun bb3 hbb3 => ?_)
        refine lw_op rfl rfl rfl (ow_pickT rfl rfl rfl ?_)
        refine lw_nil ?_
        refine ew_then ?_
        replace hb1 := cond_some hb1
        rcases hb1 with ⟨hc3, hb1⟩ | ⟨hc3, hb1⟩
        · obtain rfl := hbb3.trans hc3
          refine cw_true rfl ?_
          refine cw_seq ?_
          refine cw_region ?_
          refine lw_op rfl rfl rfl (ow_assign rfl rfl ?_)
          refine lw_nil ?_
          refine ew_then ?_
          refine cw_ret ?_
          refine ew_blockR ?_
          refine ew_thenR ?_
          refine ew_thenR ?_
          refine ew_blockR ?_
          refine ew_brkR ?_
          refine ew_thenR ?_
          have e1 := hR1 _ (Option.some.inj hb1).symm
          subst e1
          obtain rfl := Option.some.inj h
          exact ew_ret (res1 rfl (.tmp rfl)) ⟨_, rfl, ((vbool _)), hC2.bx⟩
        · obtain rfl := hbb3.trans hc3
          refine cw_false rfl ?_
          refine cw_skip ?_
          refine ew_blockN ?_
          refine ew_then ?_
          refine cw_region ?_
          refine lw_op rfl rfl rfl (ow_add rfl rfl rfl ?_)
          refine lw_op rfl rfl rfl (ow_move rfl rfl ?_)
          refine lw_nil ?_
          refine ew_nxt (W (k1 + 1)) hb1 fun a ha => ⟨M1, ?_, (hl1.trans hl2), hC2⟩
          exact ha.sub ⟨rfl, rfl, rfl, rfl, trivial⟩
      · obtain rfl := hbb2.trans hc2
        refine lw_off rfl rfl rfl rfl rfl rfl ?_
        refine lw_off rfl rfl rfl rfl rfl rfl ?_
        refine lw_off rfl rfl rfl rfl rfl rfl ?_
        refine lw_off rfl rfl rfl rfl rfl rfl ?_
        refine lw_op rfl rfl rfl (ow_pickF rfl rfl rfl ?_)
        refine lw_nil ?_
        refine ew_then ?_
        refine cw_false rfl ?_
        refine cw_skip ?_
        refine ew_blockN ?_
        refine ew_then ?_
        refine cw_region ?_
        refine lw_op rfl rfl rfl (ow_add rfl rfl rfl ?_)
        refine lw_op rfl rfl rfl (ow_move rfl rfl ?_)
        refine lw_nil ?_
        refine ew_nxt (W (k1 + 1)) hb1 fun a ha => ⟨M1, ?_, (hl1.trans hl2), hC2⟩
        exact ha.sub ⟨rfl, rfl, rfl, rfl, trivial⟩
    · obtain rfl := hbb1.trans hc1
      refine cw_false rfl ?_
      refine cw_exit ?_
      refine ew_thenX ?_
      refine ew_thenX ?_
      refine ew_blockX ?_
      refine ew_brk k1 hb1 fun a ha => ⟨M1, ?_, hl1, hC1⟩
      exact ha.sub ⟨rfl, rfl, rfl, rfl, trivial⟩
  · rintro k2 a w3 hlr2 ⟨M2, hF2, hl3, hC3⟩
    subst hlr2
    refine ew_at (E := [(1, (.int .i64 a_n)), (7, v0p), (8, (.int .i64 (a_list.length : Int))), (9, (.int .i64 k2))]) hF2 ?_
    refine ew_then ?_
    refine cw_seq ?_
    refine cw_region ?_
    refine lw_op rfl rfl rfl (ow_assign rfl rfl ?_)
    refine lw_nil ?_
    refine ew_then ?_
    refine cw_ret ?_
    obtain rfl := Option.some.inj h
    exact ew_ret (res1 rfl (.tmp rfl)) ⟨_, rfl, ((vbool _)), hC3.bx⟩

theorem w_impl_sides_has {w : World} {M : Nat → Prop} (hG : ARep (RArr 4 RShape) w M shapes ⟨0, 0, none⟩) (hO : ∀ b, M b → b < w.heap.size) {v0p : Value} {a_s : List (List Span)} (h0 : VRep (RArr 4 (RSlice RSpan)) w M a_s v0p) {v1p : Value} {a_p : Packet} (h1 : VRep RPacket w M a_p v1p) {r : Bool} (h : F.impl_sides_has a_s a_p = some r) :
    Calls Tryd.prog 83 [v0p, v1p].toArray w fun e w' => ∃ v, e = .returned v ∧ VRep RBool w' M r v ∧ BX No w w' := by
  have hC : Cx No w M w M := Cx.start hO (fun _ e => e.elim)
  refine walk (N := 20) Tryd.func83 rfl Tryd.ntmps83 rfl ?_
  refine cw_seq ?_
  refine cw_region ?_
  refine lw_op rfl rfl rfl (ow_box (R := (RArr 4 (RSlice RSpan))) rfl rfl h0 hC fun p1 w1 hp1 hb1 hl1 hC1 => ?_)
  refine lw_op rfl rfl rfl (ow_box (R := RPacket) rfl rfl (VRep.mono hl1 h1) hC1 fun p2 w2 hp2 hb2 hl2 hC2 => ?_)
  refine lw_op rfl rfl rfl (ow_assign rfl rfl ?_)
  refine lw_nil ?_
  refine ew_then ?_
  refine cw_seq ?_
  refine cw_seq ?_
  refine cw_region ?_
  refine lw_op rfl rfl rfl (ow_load (R := RPacket) rfl rfl hp2 (Tryd.sizeOf38 _) (Tryd.isAgg38 _) fun v1 hv1 => ?_)
  replace h := bind_some h
  obtain ⟨x1, hx1, h⟩ := h
  refine lw_op rfl rfl rfl (ow_call rfl rfl Tryd.call116 (w_impl_Packet_fields (hG.mono (hl1.trans hl2)) hC2.old hv1 hx1) fun v2 w3 hv2 => ?_)
  obtain ⟨hv2, hb3⟩ := hv2
  have hl3 := Le.no M hb3
  have hC3 := hC2.no hb3
  refine lw_op rfl rfl rfl (ow_move rfl rfl ?_)
  refine lw_nil ?_
  refine ew_then ?_
  replace h := bind_some h
  obtain ⟨lr1, hlr1, h⟩ := h
  refine cw_for hlr1 (fun s a w' => ∃ (M' : Nat → Prop), Fits 20 [(2, (.pointer (some p1))), (8, v2), (9, (.int .i64 s))] a ∧ Le w3 M w' M' ∧ Cx No w M w' M') ?_ ?_ ?_
  · intro a ha
    exact ⟨M, ha.sub ⟨rfl, rfl, rfl, trivial⟩, Le.refl _ _, hC3⟩
  · rintro k1 a w4 sr1 ⟨M1, hF1, hl4, hC4⟩ hb4 hR1
    refine cw_at (E := [(2, (.pointer (some p1))), (8, v2), (9, (.int .i64 k1))]) hF1 ?_
    refine cw_seq ?_
    refine cw_region ?_
    refine lw_op rfl rfl rfl (ow_lss rfl rfl rfl fun bb1 hbb1 => ?_)
    refine lw_nil ?_
    refine ew_then ?_
    refine cw_seq ?_
    replace hb4 := cond_some hb4
    rcases hb4 with ⟨hc1, hb4⟩ | ⟨hc1, hb4⟩
    · obtain rfl := hbb1.trans hc1
      refine cw_true rfl ?_
      refine cw_skip ?_
      refine ew_then ?_
      refine cw_seq ?_
      refine cw_block ?_
      refine cw_seq ?_
      refine cw_region ?_
      refine lw_op rfl rfl rfl (ow_move rfl rfl ?_)
      replace hb4 := bind_some hb4
      obtain ⟨x2, hx2, hb4⟩ := hb4
      refine lw_op rfl rfl rfl (ow_index (R := RInt) rfl rfl rfl (VRep.mono hl4 hv2) Tryd.underlying143 (Tryd.sizeOf3 _) (Tryd.isAgg3 _) hx2 fun v4 hv4 => ?_)
      obtain rfl := vint_eq hv4
      refine lw_op rfl rfl rfl (ow_assign rfl rfl ?_)
      refine lw_op rfl rfl rfl (ow_assign rfl rfl ?_)
      refine lw_nil ?_
      refine ew_then ?_
      refine cw_seq ?_
      refine cw_region ?_
      refine lw_op rfl rfl rfl (ow_move rfl rfl ?_)
      replace hb4 := bind_some hb4
      obtain ⟨x3, hx3, hb4⟩ := hb4
      refine lw_op rfl rfl rfl (ow_indexArr (R := (RSlice RSpan)) rfl rfl rfl (ARep.mono ((hl2.trans hl3).trans hl4) hp1) Tryd.underlying95 (Tryd.sizeOf93 _) hx3 fun p3 hp3 => ?_)
      refine lw_op rfl rfl rfl (ow_load (R := (RSlice RSpan)) rfl rfl hp3 (Tryd.sizeOf93 _) (Tryd.isAgg93 _) fun v5 hv5 => ?_)
      refine lw_op rfl rfl rfl (ow_move rfl rfl ?_)
      replace hb4 := bind_some hb4
      obtain ⟨x4, hx4, hb4⟩ := hb4
      refine lw_op rfl rfl rfl (ow_call rfl rfl Tryd.call85 (w_impl_SpansHave (hG.mono (((hl1.trans hl2).trans hl3).trans hl4)) hC4.old hv5 hx4) fun v6 w5 hv6 => ?_)
      obtain ⟨hv6, hb5⟩ := hv6
      have hl5 := Le.no M1 hb5
      have hC5 := hC4.no hb5
      obtain rfl := vbool_eq hv6
      refine lw_op rfl rfl rfl (ow_not rfl rfl ?_)
      refine lw_nil ?_
      refine ew_then ?_
      replace hb4 := cond_some hb4
      rcases hb4 with ⟨hc2, hb4⟩ | ⟨hc2, hb4⟩
      · subst hc2
        refine cw_false rfl ?_
        refine cw_skip ?_
        refine ew_blockN ?_
        refine ew_then ?_
        refine cw_region ?_
        refine lw_op rfl rfl rfl (ow_add rfl rfl rfl ?_)
        refine lw_op rfl rfl rfl (ow_move rfl rfl ?_)
        refine lw_nil ?_
        refine ew_nxt (W (k1 + 1)) hb4 fun a ha => ⟨M1, ?_, (hl4.trans hl5), hC5⟩
        exact ha.sub ⟨rfl, rfl, rfl, trivial⟩
      · subst hc2
        refine cw_true rfl ?_
        refine cw_seq ?_
        refine cw_region ?_
        refine lw_op rfl rfl rfl (ow_assign rfl rfl ?_)
        refine lw_nil ?_
        refine ew_then ?_
        refine cw_ret ?_
        refine ew_blockR ?_
        refine ew_thenR ?_
        refine ew_thenR ?_
        refine ew_blockR ?_
        refine ew_brkR ?_
        refine ew_thenR ?_
        have e1 := hR1 _ (Option.some.inj hb4).symm
        subst e1
        obtain rfl := Option.some.inj h
        exact ew_ret (res1 rfl (.tmp rfl)) ⟨_, rfl, ((vbool _)), hC5.bx⟩
    · obtain rfl := hbb1.trans hc1
      refine cw_false rfl ?_
      refine cw_exit ?_
      refine ew_thenX ?_
      refine ew_thenX ?_
      refine ew_blockX ?_
      refine ew_brk k1 hb4 fun a ha => ⟨M1, ?_, hl4, hC4⟩
      exact ha.sub ⟨rfl, rfl, rfl, trivial⟩
  · rintro k2 a w6 hlr2 ⟨M2, hF2, hl6, hC6⟩
    subst hlr2
    refine ew_at (E := [(2, (.pointer (some p1))), (8, v2), (9, (.int .i64 k2))]) hF2 ?_
    refine ew_then ?_
    refine cw_seq ?_
    refine cw_region ?_
    refine lw_op rfl rfl rfl (ow_assign rfl rfl ?_)
    refine lw_nil ?_
    refine ew_then ?_
    refine cw_ret ?_
    obtain rfl := Option.some.inj h
    exact ew_ret (res1 rfl (.tmp rfl)) ⟨_, rfl, ((vbool _)), hC6.bx⟩


end Go.PF
