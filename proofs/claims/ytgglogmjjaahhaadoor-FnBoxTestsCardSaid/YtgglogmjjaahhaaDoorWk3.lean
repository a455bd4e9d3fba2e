/- The walks; no condition. -/
import Derived.Test.YtgglogmjjaahhaaDoorProg
import Derived.Test.YtgglogmjjaahhaaDoorWk2
import Derived.Test.YtgglogmjjaahhaaDoorPFFresh
set_option maxRecDepth 100000
set_option maxHeartbeats 4000000
namespace Go.PF
open Go Go.RowKit Go.Proofs

theorem w_impl_Test_spans {w : World} {M : Nat → Prop} (hG : ARep (RArr 4 RShape) w M shapes ⟨0, 0, none⟩) (hO : ∀ b, M b → b < w.heap.size) {v0p : Value} {a_t : Test} (h0 : VRep RTest w M a_t v0p) {r : (List Span)} (h : F.impl_Test_spans a_t = some r) :
  Calls Tryd.prog 88 [v0p].toArray w fun e w' => ∃ v, e = .returned v ∧ VRep (RSlice RSpan) w' M r v ∧ BX No w w' := by
 obtain ⟨i79, hi79, hz79, hs79, hy79⟩ := info79
 have hC : Cx No w M w M := Cx.start hO (fun _ e => e.elim)
 refine walk (N := 40) Tryd.func88 Z Tryd.ntmps88 Z (cw_seq (cw_region (lw_op Z Z Z (ow_box (R := RTest) Z Z h0 hC fun p1 w1 hp1 hb1 hl1 hC1 => lw_op Z Z Z (ow_assign Z Z (lw_nil (ew_then (cw_seq (cw_seq (cw_region (lw_op Z Z Z (ow_fieldAddr Z Z Tryd.underlying31 Z (Tryd.sizeOf4 _) (lw_op Z Z Z (ow_load (R := RBool) Z Z (hp1.fld fld_Test_Not) (Tryd.sizeOf4 _) (Tryd.isAgg4 _) fun v1 hv1 => ?_))))))))))))))
 obtain ⟨bb1, hbb1, rfl⟩ := vbool_ex hv1
 refine lw_op Z Z Z (ow_not Z Z (lw_nil (ew_then ?_)))
 replace h := cond_some h
 rcases h with ⟨hc1, h⟩ | ⟨hc1, h⟩
 ·
  obtain rfl := hbb1.trans hc1
  refine cw_false Z (cw_skip (ew_then (cw_seq (cw_region (lw_op Z Z Z (ow_assign Z Z (lw_nil (ew_then (cw_seq (cw_seq (cw_region (lw_op Z Z Z (ow_fieldAddr Z Z Tryd.underlying31 Z (Tryd.sizeOf3 _) (lw_op Z Z Z (ow_load (R := RInt) Z Z (hp1.fld fld_Test_Lo) (Tryd.sizeOf3 _) (Tryd.isAgg3 _) fun v2 hv2 => ?_)))))))))))))))
  obtain rfl := vint_eq hv2
  refine lw_op Z Z Z (ow_gtr Z Z Z fun bb2 hbb2 => lw_nil (ew_then ?_))
  replace h := cond_some h
  rcases h with ⟨hc2, h⟩ | ⟨hc2, h⟩
  ·
   obtain rfl := hbb2.trans hc2
   refine cw_true Z (cw_region (lw_op Z Z Z (ow_move Z Z (lw_op Z Z Z (ow_fieldAddr Z Z Tryd.underlying31 Z (Tryd.sizeOf3 _) (lw_op Z Z Z (ow_load (R := RInt) Z Z (hp1.fld fld_Test_Lo) (Tryd.sizeOf3 _) (Tryd.isAgg3 _) fun v3 hv3 => ?_)))))))
   obtain rfl := vint_eq hv3
   refine lw_op Z Z Z (ow_sub Z Z Z (lw_op Z Z Z (ow_build (v := .agg #[(.int .i64 0), (.int .i64 (W (a_t.Lo - 1)))]) Z Z (by kernel_rfl) ?_)))
   have hw1 : VRep RSpan w1 M ({ Lo := 0, Hi := (W (a_t.Lo - 1)) } : Span) (.agg #[(.int .i64 0), (.int .i64 (W (a_t.Lo - 1)))]) := shut_Span
   refine lw_op Z Z Z (ow_buildSlice (R := RSpan) (xs := [({ Lo := 0, Hi := (W (a_t.Lo - 1)) } : Span)]) (cs := #[(.int .i64 0), (.int .i64 (W (a_t.Lo - 1)))]) (e := 79) Z Z (by kernel_rfl) Z Z ⟨_, _, Z, hw1.cells, Z⟩ hC1 fun p2 w2 hw2 hb2 hl2 hC2 => ?_)
   replace h := bind_some h
   obtain ⟨z1, hz1, h⟩ := h
   refine lw_op Z Z Z (ow_append (R := RSpan) Z Z Z Z Tryd.underlying71 hi79 hz79 hs79 hy79 Z Z Z Z ownrow_nil hw2 hz1 hC2 fun v4 w3 M1 hr1 hb3 hl3 hC3 hM1 hat1 => lw_op Z Z Z (ow_assign Z Z (lw_nil (ew_then (cw_seq (cw_seq (cw_region (lw_op Z Z Z (ow_fieldAddr Z Z Tryd.underlying31 Z (Tryd.sizeOf3 _) (lw_op Z Z Z (ow_load (R := RInt) Z Z (ARep.mono (hl2.trans hl3) (hp1.fld fld_Test_Field)) (Tryd.sizeOf3 _) (Tryd.isAgg3 _) fun v5 hv5 => ?_)))))))))))
   obtain rfl := vint_eq hv5
   replace h := bind_some h
   obtain ⟨x1, hx1, h⟩ := h
   have lz1 := ((hl1.trans hl2).trans hl3)
   refine lw_op Z Z Z (ow_call Z Z Tryd.call83 (w_impl_FieldTop (hG.mono lz1) hC3.old hx1) fun v6 w4 hv6 => ?_)
   obtain ⟨hv6, hb4⟩ := hv6
   have hl4 := Le.no M1 hb4
   have hC4 := hC3.no hb4
   have hr2 := hr1.no hb4
   obtain rfl := vint_eq hv6
   refine lw_op Z Z Z (ow_assign Z Z (lw_nil (ew_then (cw_seq (cw_region (lw_op Z Z Z (ow_fieldAddr Z Z Tryd.underlying31 Z (Tryd.sizeOf3 _) ?_)))))))
   have lz2 := ((hl2.trans hl3).trans hl4)
   refine lw_op Z Z Z (ow_load (R := RInt) Z Z (ARep.mono lz2 (hp1.fld fld_Test_Hi)) (Tryd.sizeOf3 _) (Tryd.isAgg3 _) fun v7 hv7 => ?_)
   obtain rfl := vint_eq hv7
   refine lw_op Z Z Z (ow_move Z Z (lw_op Z Z Z (ow_lss Z Z Z fun bb3 hbb3 => lw_nil (ew_then ?_))))
   replace h := cond_some h
   rcases h with ⟨hc3, h⟩ | ⟨hc3, h⟩
   ·
    obtain rfl := hbb3.trans hc3
    refine cw_true Z (cw_region (lw_op Z Z Z (ow_move Z Z (lw_op Z Z Z (ow_fieldAddr Z Z Tryd.underlying31 Z (Tryd.sizeOf3 _) (lw_op Z Z Z (ow_load (R := RInt) Z Z (ARep.mono lz2 (hp1.fld fld_Test_Hi)) (Tryd.sizeOf3 _) (Tryd.isAgg3 _) fun v8 hv8 => ?_)))))))
    obtain rfl := vint_eq hv8
    refine lw_op Z Z Z (ow_add Z Z Z (lw_op Z Z Z (ow_move Z Z (lw_op Z Z Z (ow_build (v := .agg #[(.int .i64 (W (a_t.Hi + 1))), (.int .i64 x1)]) Z Z (by kernel_rfl) ?_)))))
    have hw3 : VRep RSpan w4 M1 ({ Lo := (W (a_t.Hi + 1)), Hi := x1 } : Span) (.agg #[(.int .i64 (W (a_t.Hi + 1))), (.int .i64 x1)]) := shut_Span
    refine lw_op Z Z Z (ow_buildSlice (R := RSpan) (xs := [({ Lo := (W (a_t.Hi + 1)), Hi := x1 } : Span)]) (cs := #[(.int .i64 (W (a_t.Hi + 1))), (.int .i64 x1)]) (e := 79) Z Z (by kernel_rfl) Z Z ⟨_, _, Z, hw3.cells, Z⟩ hC4 fun p3 w5 hw4 hb5 hl5 hC5 => ?_)
    have hr3 := hr2.no hb5
    replace h := bind_some h
    obtain ⟨z2, hz2, h⟩ := h
    refine lw_op Z Z Z (ow_append (R := RSpan) Z Z Z Z Tryd.underlying71 hi79 hz79 hs79 hy79 Z Z Z Z hr3 hw4 hz2 hC5 fun v9 w6 M2 hr4 hb6 hl6 hC6 hM2 hat2 => lw_op Z Z Z (ow_assign Z Z (lw_nil (ew_then (cw_seq (cw_region (lw_op Z Z Z (ow_move Z Z (lw_op Z Z Z (ow_assign Z Z (lw_nil (ew_then (cw_ret ?_)))))))))))))
    obtain rfl := Option.some.inj h
    exact ew_ret (res1 Z (.tmp Z)) ⟨_, Z, (hr4.freezeBack hC6 hO), hC6.bx⟩
   ·
    obtain rfl := hbb3.trans hc3
    refine cw_false Z (cw_skip (ew_then (cw_seq (cw_region (lw_op Z Z Z (ow_move Z Z (lw_op Z Z Z (ow_assign Z Z (lw_nil (ew_then (cw_ret ?_)))))))))))
    obtain rfl := Option.some.inj h
    exact ew_ret (res1 Z (.tmp Z)) ⟨_, Z, (hr2.freezeBack hC4 hO), hC4.bx⟩
  ·
   obtain rfl := hbb2.trans hc2
   refine cw_false Z (cw_skip (ew_then (cw_seq (cw_seq (cw_region (lw_op Z Z Z (ow_fieldAddr Z Z Tryd.underlying31 Z (Tryd.sizeOf3 _) (lw_op Z Z Z (ow_load (R := RInt) Z Z (hp1.fld fld_Test_Field) (Tryd.sizeOf3 _) (Tryd.isAgg3 _) fun v10 hv10 => ?_)))))))))
   obtain rfl := vint_eq hv10
   replace h := bind_some h
   obtain ⟨x2, hx2, h⟩ := h
   refine lw_op Z Z Z (ow_call Z Z Tryd.call83 (w_impl_FieldTop (hG.mono hl1) hC1.old hx2) fun v11 w7 hv11 => ?_)
   obtain ⟨hv11, hb7⟩ := hv11
   have hl7 := Le.no M hb7
   have hC7 := hC1.no hb7
   obtain rfl := vint_eq hv11
   refine lw_op Z Z Z (ow_assign Z Z (lw_nil (ew_then (cw_seq (cw_region (lw_op Z Z Z (ow_fieldAddr Z Z Tryd.underlying31 Z (Tryd.sizeOf3 _) (lw_op Z Z Z (ow_load (R := RInt) Z Z (ARep.mono hl7 (hp1.fld fld_Test_Hi)) (Tryd.sizeOf3 _) (Tryd.isAgg3 _) fun v12 hv12 => ?_)))))))))
   obtain rfl := vint_eq hv12
   refine lw_op Z Z Z (ow_move Z Z (lw_op Z Z Z (ow_lss Z Z Z fun bb4 hbb4 => lw_nil (ew_then ?_))))
   replace h := cond_some h
   rcases h with ⟨hc4, h⟩ | ⟨hc4, h⟩
   ·
    obtain rfl := hbb4.trans hc4
    refine cw_true Z (cw_region (lw_op Z Z Z (ow_move Z Z (lw_op Z Z Z (ow_fieldAddr Z Z Tryd.underlying31 Z (Tryd.sizeOf3 _) (lw_op Z Z Z (ow_load (R := RInt) Z Z (ARep.mono hl7 (hp1.fld fld_Test_Hi)) (Tryd.sizeOf3 _) (Tryd.isAgg3 _) fun v13 hv13 => ?_)))))))
    obtain rfl := vint_eq hv13
    refine lw_op Z Z Z (ow_add Z Z Z (lw_op Z Z Z (ow_move Z Z (lw_op Z Z Z (ow_build (v := .agg #[(.int .i64 (W (a_t.Hi + 1))), (.int .i64 x2)]) Z Z (by kernel_rfl) ?_)))))
    have hw5 : VRep RSpan w7 M ({ Lo := (W (a_t.Hi + 1)), Hi := x2 } : Span) (.agg #[(.int .i64 (W (a_t.Hi + 1))), (.int .i64 x2)]) := shut_Span
    refine lw_op Z Z Z (ow_buildSlice (R := RSpan) (xs := [({ Lo := (W (a_t.Hi + 1)), Hi := x2 } : Span)]) (cs := #[(.int .i64 (W (a_t.Hi + 1))), (.int .i64 x2)]) (e := 79) Z Z (by kernel_rfl) Z Z ⟨_, _, Z, hw5.cells, Z⟩ hC7 fun p4 w8 hw6 hb8 hl8 hC8 => ?_)
    replace h := bind_some h
    obtain ⟨z3, hz3, h⟩ := h
    refine lw_op Z Z Z (ow_append (R := RSpan) Z Z Z Z Tryd.underlying71 hi79 hz79 hs79 hy79 Z Z Z Z ownrow_nil hw6 hz3 hC8 fun v14 w9 M3 hr5 hb9 hl9 hC9 hM3 hat3 => lw_op Z Z Z (ow_assign Z Z (lw_nil (ew_then (cw_seq (cw_region (lw_op Z Z Z (ow_move Z Z (lw_op Z Z Z (ow_assign Z Z (lw_nil (ew_then (cw_ret ?_)))))))))))))
    obtain rfl := Option.some.inj h
    exact ew_ret (res1 Z (.tmp Z)) ⟨_, Z, (hr5.freezeBack hC9 hO), hC9.bx⟩
   ·
    obtain rfl := hbb4.trans hc4
    refine cw_false Z (cw_skip (ew_then (cw_seq (cw_region (lw_op Z Z Z (ow_move Z Z (lw_op Z Z Z (ow_assign Z Z (lw_nil (ew_then (cw_ret ?_)))))))))))
    obtain rfl := Option.some.inj h
    exact ew_ret (res1 Z (.tmp Z)) ⟨_, Z, (VRep.mono hC7.back (VRep.mono hl7 (vslice_nil (R := RSpan) (w := w1) (M := M)))), hC7.bx⟩
 ·
  obtain rfl := hbb1.trans hc1
  refine cw_true Z (cw_seq (cw_region (lw_op Z Z Z (ow_fieldAddr Z Z Tryd.underlying31 Z (Tryd.sizeOf3 _) (lw_op Z Z Z (ow_load (R := RInt) Z Z (hp1.fld fld_Test_Lo) (Tryd.sizeOf3 _) (Tryd.isAgg3 _) fun v15 hv15 => ?_))))))
  obtain rfl := vint_eq hv15
  refine lw_op Z Z Z (ow_fieldAddr Z Z Tryd.underlying31 Z (Tryd.sizeOf3 _) (lw_op Z Z Z (ow_load (R := RInt) Z Z (hp1.fld fld_Test_Hi) (Tryd.sizeOf3 _) (Tryd.isAgg3 _) fun v16 hv16 => ?_)))
  obtain rfl := vint_eq hv16
  refine lw_op Z Z Z (ow_build (v := .agg #[(.int .i64 a_t.Lo), (.int .i64 a_t.Hi)]) Z Z (by kernel_rfl) ?_)
  have hw7 : VRep RSpan w1 M ({ Lo := a_t.Lo, Hi := a_t.Hi } : Span) (.agg #[(.int .i64 a_t.Lo), (.int .i64 a_t.Hi)]) := shut_Span
  refine lw_op Z Z Z (ow_buildSlice (R := RSpan) (xs := [({ Lo := a_t.Lo, Hi := a_t.Hi } : Span)]) (cs := #[(.int .i64 a_t.Lo), (.int .i64 a_t.Hi)]) (e := 79) Z Z (by kernel_rfl) Z Z ⟨_, _, Z, hw7.cells, Z⟩ hC1 fun p5 w10 hw8 hb10 hl10 hC10 => lw_op Z Z Z (ow_assign Z Z (lw_nil (ew_then (cw_ret (ew_thenR ?_))))))
  obtain rfl := Option.some.inj h
  exact ew_ret (res1 Z (.tmp Z)) ⟨_, Z, (VRep.mono hC10.back hw8), hC10.bx⟩

theorem w_impl_testsSides {w : World} {M : Nat → Prop} (hG : ARep (RArr 4 RShape) w M shapes ⟨0, 0, none⟩) (hO : ∀ b, M b → b < w.heap.size) {v0p : Value} {a_list : List Test} (h0 : VRep (RSlice RTest) w M a_list v0p) {r : (List (List Span))} (h : F.impl_testsSides a_list = some r) :
  Calls Tryd.prog 57 [v0p].toArray w fun e w' => ∃ v, e = .returned v ∧ VRep (RArr 4 (RSlice RSpan)) w' M r v ∧ BX No w w' := by
 have hC : Cx No w M w M := Cx.start hO (fun _ e => e.elim)
 refine walk (N := 31) Tryd.func57 Z Tryd.ntmps57 Z (cw_seq (cw_region (lw_op Z Z Z (ow_alloc Z (Tryd.zeroValue73 _) hC fun g1 w1 hg1 hg2 ho1 hb1 hl1 hC1 => ?_))))
 have hm1 : (Add g1 M) g1 := .inl Z
 have ho2 : OwnA (RArr 4 (RSlice RSpan)) w1 (Add g1 M) g1 73 [([] : List Span), ([] : List Span), ([] : List Span), ([] : List Span)] := OwnA.of ho1 ⟨Z, ⟨_, _, Z, (vslice_nil (R := RSpan) (w := w1) (M := (Add g1 M))).cells, _, _, Z, (vslice_nil (R := RSpan) (w := w1) (M := (Add g1 M))).cells, _, _, Z, (vslice_nil (R := RSpan) (w := w1) (M := (Add g1 M))).cells, _, _, Z, (vslice_nil (R := RSpan) (w := w1) (M := (Add g1 M))).cells, Z⟩⟩
 refine lw_nil (ew_then (cw_seq (cw_region ?_)))
 replace h := bind_some h
 obtain ⟨x1, hx1, h⟩ := h
 refine lw_op Z Z Z (ow_call Z Z Tryd.call86 (w_impl_allSides (hG.mono hl1) hC1.old hx1) fun v1 w2 hv1 => ?_)
 obtain ⟨hv1, hb2⟩ := hv1
 have hl2 := Le.no (Add g1 M) hb2
 have hC2 := hC1.no hb2
 have ho3 := ho2.no hb2 hl2
 refine lw_op Z Z Z (ow_alloc Z (Tryd.zeroValue73 _) hC2 fun g2 w3 hg3 hg4 ho4 hb3 hl3 hC3 => ?_)
 have hn1 := Nat.ne_of_lt (Nat.lt_of_lt_of_le ho3.lt hg3)
 have ho5 := ho3.no hb3 hl3
 have hm2 : (Add g2 (Add g1 M)) g1 := .inr hm1
 have hm3 : (Add g2 (Add g1 M)) g2 := .inl Z
 have ho6 : OwnA (RArr 4 (RSlice RSpan)) w3 (Add g2 (Add g1 M)) g2 73 [([] : List Span), ([] : List Span), ([] : List Span), ([] : List Span)] := OwnA.of ho4 ⟨Z, ⟨_, _, Z, (vslice_nil (R := RSpan) (w := w3) (M := (Add g2 (Add g1 M)))).cells, _, _, Z, (vslice_nil (R := RSpan) (w := w3) (M := (Add g2 (Add g1 M)))).cells, _, _, Z, (vslice_nil (R := RSpan) (w := w3) (M := (Add g2 (Add g1 M)))).cells, _, _, Z, (vslice_nil (R := RSpan) (w := w3) (M := (Add g2 (Add g1 M)))).cells, Z⟩⟩
 obtain ⟨cs1, h1, h2⟩ := ho6.own
 refine lw_op0 Z Z (ow_storeA (X := No) (R := (RArr 4 (RSlice RSpan))) Z Z Z Z h1 h2 (Tryd.sizeOf73 _) (VRep.mono hl3 hv1) hm3 (.inl hg4) hC3 fun w4 ho7 hb4 hl4 hC4 => ?_)
 have ho8 := ho5.go hb4 (fun e => hn1 e) hl4
 refine lw_nil (ew_then (cw_seq (cw_seq (cw_region (lw_op Z Z Z (ow_move Z Z ?_))))))
 have lz1 := (((hl1.trans hl2).trans hl3).trans hl4)
 refine lw_op Z Z Z (ow_len Z Z (VRep.mono lz1 h0) Tryd.underlying27 Z (lw_op Z Z Z (ow_move Z Z (lw_nil (ew_then ?_)))))
 replace h := bind_some h
 obtain ⟨lr1, hlr1, h⟩ := h
 refine cw_for hlr1 (fun s a w' => ∃ (M' : Nat → Prop), Fits 31 [(2, (.pointer (some ⟨g1, 0, none⟩))), (3, (.pointer (some ⟨g2, 0, none⟩))), (7, v0p), (8, (.int .i64 (a_list.length : Int))), (9, (.int .i64 s.1))] a ∧ Le w4 (Add g2 (Add g1 M)) w' M' ∧ Cx No w M w' M' ∧ OwnA (RArr 4 (RSlice RSpan)) w' M' g1 73 [([] : List Span), ([] : List Span), ([] : List Span), ([] : List Span)] ∧ M' g1 ∧ OwnA (RArr 4 (RSlice RSpan)) w' M' g2 73 s.2 ∧ M' g2) ?_ ?_ ?_
 ·
  intro a ha
  exact ⟨(Add g2 (Add g1 M)), ha.sub ⟨Z, Z, Z, Z, Z, trivial⟩, Le.refl _ _, hC4, ho8, hm2, ho7, hm3⟩
 ·
  rintro ⟨k1, y1⟩ a w5 sr1 ⟨M1, hF1, hl5, hC5, ho9, hm4, ho10, hm5⟩ hb5 hR1
  refine cw_at (E := [(2, (.pointer (some ⟨g1, 0, none⟩))), (3, (.pointer (some ⟨g2, 0, none⟩))), (7, v0p), (8, (.int .i64 (a_list.length : Int))), (9, (.int .i64 k1))]) hF1 (cw_seq (cw_region (lw_op Z Z Z (ow_lss Z Z Z fun bb1 hbb1 => lw_nil (ew_then (cw_seq ?_))))))
  replace hb5 := cond_some hb5
  rcases hb5 with ⟨hc1, hb5⟩ | ⟨hc1, hb5⟩
  ·
   obtain rfl := hbb1.trans hc1
   refine cw_true Z (cw_skip (ew_then (cw_seq (cw_block (cw_seq (cw_region ?_))))))
   replace hb5 := bind_some hb5
   obtain ⟨x2, hx2, hb5⟩ := hb5
   refine lw_op Z Z Z (ow_indexSlice (R := RTest) Z Z Z (VRep.mono (lz1.trans hl5) h0) Tryd.underlying27 (Tryd.sizeOf31 _) hx2 fun p1 hp1 => lw_op Z Z Z (ow_load (R := RTest) Z Z hp1 (Tryd.sizeOf31 _) (Tryd.isAgg31 _) fun v4 hv4 => lw_allocStore (R := RTest) Z Z Z Z Z Z Z Tryd.zeroValue31 Tryd.sizeOf31 Z Z Z (by simp) hv4 hC5 fun p2 w6 hp2 hb6 hl6 hC6 => ?_))
   have ho11 := ho9.no hb6 hl6
   have ho12 := ho10.no hb6 hl6
   refine lw_nil (ew_then ?_)
   replace hb5 := bind_some hb5
   obtain ⟨x3, hx3, hb5⟩ := hb5
   replace hb5 := bind_some hb5
   obtain ⟨x4, hx4, hb5⟩ := hb5
   replace hb5 := bind_some hb5
   obtain ⟨x5, hx5, hb5⟩ := hb5
   replace hb5 := bind_some hb5
   obtain ⟨x6, hx6, hb5⟩ := hb5
   have lz2 := ((lz1.trans hl5).trans hl6)
   refine cw_sub (E' := [(2, (.pointer (some ⟨g1, 0, none⟩))), (3, (.pointer (some ⟨g2, 0, none⟩))), (5, (.pointer (some p2))), (7, v0p), (8, (.int .i64 (a_list.length : Int))), (9, (.int .i64 k1))]) ⟨Z, Z, Z, Z, Z, Z, trivial⟩ (cw_drawL 15 14 12 27 13 [PA RInt M1 x2.Field, PEq (.int .i64 x2.Field), PA RInt M1 x2.Field, PEq (.int .i64 x2.Field), PEq (.pointer (some ⟨g2, (x2.Field : Int).toNat * (RSlice RSpan).size, none⟩)), PV (RSlice RSpan) M1 x3, PV RTest M1 x2, PV (RSlice RSpan) M1 x4, PA RInt M1 x2.Field, PEq (.int .i64 x2.Field), PEq (.int .i64 x5), PT2 (PV (RSlice RSpan) M1 x6.1) (PEq (.bool x6.2)), PT2 (PV (RSlice RSpan) M1 x6.1) (PEq (.bool x6.2)), PV (RSlice RSpan) M1 x6.1, PEq (.bool x6.2)] (by kernel_rfl) Z (by kernel_rfl) Z Z Z Z Z Z Z ⟨PA.mono _ _ _, PEq.mono _, PA.mono _ _ _, PEq.mono _, PEq.mono _, PV.mono _ _ _, PV.mono _ _ _, PV.mono _ _ _, PA.mono _ _ _, PEq.mono _, PEq.mono _, (PT2.mono (PV.mono _ _ _) (PEq.mono _)), (PT2.mono (PV.mono _ _ _) (PEq.mono _)), PV.mono _ _ _, PEq.mono _, trivial⟩ (fun v w h => by obtain ⟨a, b, rfl, ha, hb⟩ := h; exact ⟨b, hb, fun w' => ow_extract Z Z Z ⟨Z, Z⟩⟩) ⟨?_, ?_, ?_, ?_, ?_, ?_, ?_, ?_, ?_, ?_, ?_, ?_, ?_, ?_, ?_, trivial⟩ ?_)
   ·
    intro w10 D hS1 hd1
    have hl10 := Le.no M1 hS1
    exact dg_sub (E' := [(5, (.pointer (some p2)))]) ⟨Z, trivial⟩ (dg_plain Z (ow_fieldAddr Z Z Tryd.underlying31 Z (Tryd.sizeOf3 _) ⟨BX.refl _ _, ⟨_, Z, (ARep.mono hl10 (hp2.fld fld_Test_Field))⟩⟩))
   ·
    intro w11 D hS2 hd2
    have d1 : PA RInt M1 x2.Field (D 0) w11 := dpA hd2 0 Z
    obtain ⟨p3, e1, ha1⟩ := d1
    refine dg_sub (E' := [(14, (.pointer (some p3)))]) ⟨(congrArg some e1), trivial⟩ (dg_plain Z (ow_load (R := RInt) Z Z ha1 (Tryd.sizeOf3 _) (Tryd.isAgg3 _) fun v15 hv15 => ?_))
    obtain rfl := vint_eq hv15
    exact ⟨BX.refl _ _, Z⟩
   ·
    intro w12 D hS3 hd3
    have hl12 := Le.no M1 hS3
    exact dg_sub (E' := [(5, (.pointer (some p2)))]) ⟨Z, trivial⟩ (dg_plain Z (ow_fieldAddr Z Z Tryd.underlying31 Z (Tryd.sizeOf3 _) ⟨BX.refl _ _, ⟨_, Z, (ARep.mono hl12 (hp2.fld fld_Test_Field))⟩⟩))
   ·
    intro w13 D hS4 hd4
    have d2 : PA RInt M1 x2.Field (D 2) w13 := dpA hd4 2 Z
    obtain ⟨p4, e2, ha2⟩ := d2
    refine dg_sub (E' := [(16, (.pointer (some p4)))]) ⟨(congrArg some e2), trivial⟩ (dg_plain Z (ow_load (R := RInt) Z Z ha2 (Tryd.sizeOf3 _) (Tryd.isAgg3 _) fun v16 hv16 => ?_))
    obtain rfl := vint_eq hv16
    exact ⟨BX.refl _ _, Z⟩
   ·
    intro w14 D hS5 hd5
    have hl14 := Le.no M1 hS5
    have ho28 := ho12.no hS5 hl14
    exact dg_sub (E' := [(17, (.int .i64 x2.Field)), (3, (.pointer (some ⟨g2, 0, none⟩)))]) ⟨(dpE hd5 3 Z Z), Z, trivial⟩ (dg_plain Z (ow_indexA (R := (RSlice RSpan)) Z Z Z Z ho28 Tryd.underlying73 (Tryd.sizeOf71 _) hx3 ⟨BX.refl _ _, Z⟩))
   ·
    intro w15 D hS6 hd6
    have hl15 := Le.no M1 hS6
    have ho30 := ho12.no hS6 hl15
    exact dg_sub (E' := [(18, (.pointer (some ⟨g2, (x2.Field : Int).toNat * (RSlice RSpan).size, none⟩)))]) ⟨(dpE hd6 4 Z Z), trivial⟩ (dg_plain Z (ow_loadElA (R := (RSlice RSpan)) Z Z Z ho30 hx3 (Tryd.sizeOf71 _) (Tryd.isAgg71 _) fun v17 hv17 => ⟨BX.refl _ _, hv17⟩))
   ·
    intro w16 D hS7 hd7
    have hl16 := Le.no M1 hS7
    exact dg_sub (E' := [(5, (.pointer (some p2)))]) ⟨Z, trivial⟩ (dg_plain Z (ow_load (R := RTest) Z Z (ARep.mono hl16 hp2) (Tryd.sizeOf31 _) (Tryd.isAgg31 _) fun v18 hv18 => ⟨BX.refl _ _, hv18⟩))
   ·
    intro w17 D hS8 hd8
    have hl17 := Le.no M1 hS8
    have hC17 := hC6.no hS8
    have d5 : PV RTest M1 x2 (D 6) w17 := dpA hd8 6 Z
    generalize hq1 : (D 6) = v19 at d5
    refine dg_sub (E' := [(20, v19)]) ⟨(congrArg some hq1), trivial⟩ (dg_plain Z (ow_call Z Z Tryd.call88 (w_impl_Test_spans (hG.mono (lz2.trans hl17)) hC17.old d5 hx4) fun v20 w18 hv20 => ?_))
    obtain ⟨hv20, hb10⟩ := hv20
    exact ⟨hb10, hv20⟩
   ·
    intro w19 D hS9 hd9
    have hl19 := Le.no M1 hS9
    exact dg_sub (E' := [(5, (.pointer (some p2)))]) ⟨Z, trivial⟩ (dg_plain Z (ow_fieldAddr Z Z Tryd.underlying31 Z (Tryd.sizeOf3 _) ⟨BX.refl _ _, ⟨_, Z, (ARep.mono hl19 (hp2.fld fld_Test_Field))⟩⟩))
   ·
    intro w20 D hS10 hd10
    have d6 : PA RInt M1 x2.Field (D 8) w20 := dpA hd10 8 Z
    obtain ⟨p5, e3, ha3⟩ := d6
    refine dg_sub (E' := [(22, (.pointer (some p5)))]) ⟨(congrArg some e3), trivial⟩ (dg_plain Z (ow_load (R := RInt) Z Z ha3 (Tryd.sizeOf3 _) (Tryd.isAgg3 _) fun v21 hv21 => ?_))
    obtain rfl := vint_eq hv21
    exact ⟨BX.refl _ _, Z⟩
   ·
    intro w21 D hS11 hd11
    have hl21 := Le.no M1 hS11
    have hC21 := hC6.no hS11
    refine dg_sub (E' := [(23, (.int .i64 x2.Field))]) ⟨(dpE hd11 9 Z Z), trivial⟩ (dg_plain Z (ow_call Z Z Tryd.call83 (w_impl_FieldTop (hG.mono (lz2.trans hl21)) hC21.old hx5) fun v22 w22 hv22 => ?_))
    obtain ⟨hv22, hb11⟩ := hv22
    obtain rfl := vint_eq hv22
    exact ⟨hb11, Z⟩
   ·
    intro w23 D hS12 hd12
    have hl23 := Le.no M1 hS12
    have hC23 := hC6.no hS12
    have d9 : PV (RSlice RSpan) M1 x3 (D 5) w23 := dpA hd12 5 Z
    have d10 : PV (RSlice RSpan) M1 x4 (D 7) w23 := dpA hd12 7 Z
    generalize hq2 : (D 5) = v23 at d9
    generalize hq3 : (D 7) = v24 at d10
    refine dg_sub (E' := [(19, v23), (21, v24), (24, (.int .i64 x5))]) ⟨(congrArg some hq2), (congrArg some hq3), (dpE hd12 10 Z Z), trivial⟩ (dg_plain Z (ow_call Z Z Tryd.call87 (w_impl_meetSpans (hG.mono (lz2.trans hl23)) hC23.old d9 d10 hx6) fun v25 w24 hv25 => ?_))
    obtain ⟨⟨v26, v27, rfl, hv26, hv27⟩, hb12⟩ := hv25
    obtain ⟨bb3, hbb3, rfl⟩ := vbool_ex hv27
    exact ⟨hb12, ⟨_, _, Z, hv26, (congrArg Value.bool hbb3)⟩⟩
   ·
    intro w25 D hS13 hd13
    have d13 : PT2 (PV (RSlice RSpan) M1 x6.1) (PEq (.bool x6.2)) (D 11) w25 := dpA hd13 11 Z
    obtain ⟨v28, v29, e4, hd14, hd15⟩ := d13
    obtain ⟨bb4, hq4, rfl⟩ : ∃ b, b = x6.2 ∧ v29 = .bool b := ⟨_, rfl, hd15⟩
    exact dg_sub (E' := [(25, (.tuple #[v28, (.bool bb4)]))]) ⟨(congrArg some e4), trivial⟩ (dg_plain Z (ow_move Z Z ⟨BX.refl _ _, ⟨_, _, Z, hd14, (congrArg Value.bool hq4)⟩⟩))
   ·
    intro w26 D hS14 hd16
    have d14 : PT2 (PV (RSlice RSpan) M1 x6.1) (PEq (.bool x6.2)) (D 12) w26 := dpA hd16 12 Z
    obtain ⟨v30, v31, e5, hd17, hd18⟩ := d14
    obtain ⟨bb5, hq5, rfl⟩ : ∃ b, b = x6.2 ∧ v31 = .bool b := ⟨_, rfl, hd18⟩
    exact dg_sub (E' := [(13, (.tuple #[v30, (.bool bb5)]))]) ⟨(congrArg some e5), trivial⟩ (dg_plain Z (ow_extract Z Z Z ⟨BX.refl _ _, hd17⟩))
   ·
    intro w27 D hS15 hd19
    have d15 : PT2 (PV (RSlice RSpan) M1 x6.1) (PEq (.bool x6.2)) (D 12) w27 := dpA hd19 12 Z
    obtain ⟨v32, v33, e6, hd20, hd21⟩ := d15
    obtain ⟨bb6, hq6, rfl⟩ : ∃ b, b = x6.2 ∧ v33 = .bool b := ⟨_, rfl, hd21⟩
    exact dg_sub (E' := [(13, (.tuple #[v32, (.bool bb6)]))]) ⟨(congrArg some e6), trivial⟩ (dg_plain Z (ow_extract Z Z Z ⟨BX.refl _ _, (congrArg Value.bool hq6)⟩))
   ·
    intro w28 D hS16 hd22
    have d29 : PV (RSlice RSpan) M1 x6.1 (D 13) w28 := dpA hd22 13 Z
    have hl28 := Le.no M1 hS16
    have hC28 := hC6.no hS16
    have ho55 := ho11.no hS16 hl28
    have ho56 := ho12.no hS16 hl28
    generalize hq7 : (D 13) = v34 at d29
    refine ls_sub (E' := [(15, (.int .i64 x2.Field)), (26, v34), (2, (.pointer (some ⟨g1, 0, none⟩))), (3, (.pointer (some ⟨g2, 0, none⟩))), (5, (.pointer (some p2))), (7, v0p), (8, (.int .i64 (a_list.length : Int))), (9, (.int .i64 k1))]) ⟨(dpE hd22 1 Z Z), (congrArg some hq7), Z, Z, Z, Z, Z, Z, trivial⟩ (ls_op (by kernel_rfl) Z Z Z Z Z (ow_indexA (R := (RSlice RSpan)) Z Z Z Z ho56 Tryd.underlying73 (Tryd.sizeOf71 _) hx3 (ls_op0 (by kernel_rfl) Z Z (ow_storeElA (X := No) (R := (RSlice RSpan)) Z Z Z Z ho56 hx3 (Tryd.sizeOf71 _) d29 hm5 (.inl hg4) hC28 fun w29 ho57 hb13 hl29 hC29 => ?_))))
    have ho58 := ho55.go hb13 (fun e => hn1 e) hl29
    refine ls_nil (ew_blockN (ew_then (cw_region (lw_op Z Z Z (ow_add Z Z Z (lw_op Z Z Z (ow_move Z Z (lw_nil ?_))))))))
    have lz3 := (((hl5.trans hl6).trans hl28).trans hl29)
    exact ew_nxt ((W (k1 + 1)), (List.set y1 (x2.Field : Int).toNat x6.1)) hb5 fun a ha => ⟨M1, (ha.sub ⟨Z, Z, Z, Z, Z, trivial⟩), lz3, hC29, ho58, hm4, ho57, hm5⟩
  ·
   obtain rfl := hbb1.trans hc1
   exact cw_false Z (cw_exit (ew_thenX (ew_thenX (ew_blockX (ew_brk (k1, y1) hb5 fun a ha => ⟨M1, (ha.sub ⟨Z, Z, Z, Z, Z, trivial⟩), hl5, hC5, ho9, hm4, ho10, hm5⟩)))))
 ·
  rintro ⟨k2, y2⟩ a w30 hlr2 ⟨M2, hF2, hl30, hC30, ho59, hm6, ho60, hm7⟩
  subst hlr2
  refine ew_at (E := [(2, (.pointer (some ⟨g1, 0, none⟩))), (3, (.pointer (some ⟨g2, 0, none⟩))), (7, v0p), (8, (.int .i64 (a_list.length : Int))), (9, (.int .i64 k2))]) hF2 (ew_then (cw_seq (cw_region (lw_op Z Z Z (ow_loadA (R := (RArr 4 (RSlice RSpan))) Z Z Z ho60 (Tryd.sizeOf73 _) (Tryd.isAgg73 _) fun v37 hv37 => ?_)))))
  obtain ⟨cs2, h3, h4⟩ := ho59.own
  refine lw_op0 Z Z (ow_storeA (X := No) (R := (RArr 4 (RSlice RSpan))) Z Z Z Z h3 h4 (Tryd.sizeOf73 _) hv37 hm6 (.inl hg2) hC30 fun w31 ho61 hb14 hl31 hC31 => lw_nil (ew_then (cw_ret ?_)))
  obtain rfl := Option.some.inj h
  obtain ⟨v38, hq8, hw1⟩ := resA ho61 (Tryd.sizeOf73 _) (Tryd.isAgg73 _) rfl
  exact ew_ret (res1 Z (.cell Z hq8)) ⟨_, Z, (hw1.mono hC31.back), hC31.bx⟩

theorem w_impl_sides_box {w : World} {M : Nat → Prop} (_hG : ARep (RArr 4 RShape) w M shapes ⟨0, 0, none⟩) (hO : ∀ b, M b → b < w.heap.size) {v0p : Value} {a_s : List (List Span)} (h0 : VRep (RArr 4 (RSlice RSpan)) w M a_s v0p) {r : Box} (h : F.impl_sides_box a_s = some r) :
  Calls Tryd.prog 58 [v0p].toArray w fun e w' => ∃ v, e = .returned v ∧ VRep RBox w' M r v ∧ BX No w w' := by
 obtain ⟨i71, hi71, hz71, hs71, hy71⟩ := info71
 obtain ⟨i79, hi79, hz79, hs79, hy79⟩ := info79
 have hC : Cx No w M w M := Cx.start hO (fun _ e => e.elim)
 clear _hG
 refine walk (N := 21) Tryd.func58 Z Tryd.ntmps58 Z (cw_seq (cw_region (lw_op Z Z Z (ow_box (R := (RArr 4 (RSlice RSpan))) Z Z h0 hC fun p1 w1 hp1 hb1 hl1 hC1 => lw_op Z Z Z (ow_alloc Z (Tryd.zeroValue25 _) hC1 fun g1 w2 hg1 hg2 ho1 hb2 hl2 hC2 => ?_)))))
 have hm1 : (Add g1 M) g1 := .inl Z
 refine lw_nil (ew_then (cw_seq (cw_region ?_)))
 replace h := bind_some h
 obtain ⟨mk1, hmk1, h⟩ := h
 refine lw_op Z Z Z (ow_make (R := (RSlice RSpan)) Z Z Z Tryd.underlying23 hi71 hz71 hs71 hy71 Z Z vslice_nil hmk1 hC2 fun v1 w3 M1 hr1 hb3 hl3 hC3 hM1 hat1 => ?_)
 have ho2 := ho1.no hb3
 have hm2 := hM1 _ hm1
 obtain ⟨A1, c1, rfl⟩ := hr1.len
 refine lw_op Z Z Z (ow_build (v := .agg #[(.slice A1 mk1.length c1)]) Z Z (by kernel_rfl) (lw_op Z Z Z (ow_alloc Z (Tryd.zeroValue25 _) hC3 fun g2 w4 hg3 hg4 ho3 hb4 hl4 hC4 => ?_)))
 have hn1 := Nat.ne_of_lt (Nat.lt_of_lt_of_le ho2.lt hg3)
 have ho4 := ho2.no hb4
 have hm3 : (Add g2 M1) g1 := .inr hm2
 have hr2 := hr1.add hb4 hg3
 have hm4 : (Add g2 M1) g2 := .inl Z
 refine lw_op0 Z Z (ow_store (X := No) (us := [(.slice A1 mk1.length c1)]) (cs' := #[(.slice A1 mk1.length c1)]) Z Z Z Z ho3 (Tryd.sizeOf25 _) Z Z Z Z hm4 (.inl hg4) Z hC4 fun w5 ho5 hb5 hl5 hC5 => ?_)
 have ho6 := ho4.go hb5 (fun e => hn1 e)
 have hr3 := hr2.go hb5 (fun k hk e => (orow_ne hr2 ho3 (by decide)) (hk.trans (congrArg some e))) hl5 (fun _ h => h)
 refine lw_nil (ew_then (cw_seq (cw_seq (cw_region ?_))))
 have lz1 := (((hl2.trans hl3).trans hl4).trans hl5)
 refine lw_op Z Z Z (ow_load (R := (RArr 4 (RSlice RSpan))) Z Z (ARep.mono lz1 hp1) (Tryd.sizeOf73 _) (Tryd.isAgg73 _) fun v2 hv2 => lw_op Z Z Z (ow_move Z Z (lw_nil (ew_then ?_))))
 replace h := bind_some h
 obtain ⟨lr1, hlr1, h⟩ := h
 refine cw_for hlr1 (fun s a w' => ∃ (M' : Nat → Prop), Fits 21 [(2, (.pointer (some ⟨g1, 0, none⟩))), (3, (.pointer (some ⟨g2, 0, none⟩))), (8, v2), (9, (.int .i64 s.1))] a ∧ Le w5 (Add g2 M1) w' M' ∧ Cx No w M w' M' ∧ OwnRow (RSlice RSpan) w.heap.size 71 w' M' s.2 (.slice A1 mk1.length c1) ∧ Own w' g1 25 #[(.slice none 0 0)] ∧ M' g1 ∧ Own w' g2 25 #[(.slice A1 mk1.length c1)] ∧ M' g2) ?_ ?_ ?_
 ·
  intro a ha
  exact ⟨(Add g2 M1), ha.sub ⟨Z, Z, Z, Z, trivial⟩, Le.refl _ _, hC5, hr3, ho6, hm3, ho5, hm4⟩
 ·
  rintro ⟨k1, y1⟩ a w6 sr1 ⟨M2, hF1, hl6, hC6, hw1, ho7, hm5, ho8, hm6⟩ hb6 hR1
  refine cw_at (E := [(2, (.pointer (some ⟨g1, 0, none⟩))), (3, (.pointer (some ⟨g2, 0, none⟩))), (8, v2), (9, (.int .i64 k1))]) hF1 (cw_seq (cw_region (lw_op Z Z Z (ow_lss Z Z Z fun bb1 hbb1 => lw_nil (ew_then (cw_seq ?_))))))
  replace hb6 := cond_some hb6
  rcases hb6 with ⟨hc1, hb6⟩ | ⟨hc1, hb6⟩
  ·
   obtain rfl := hbb1.trans hc1
   refine cw_true Z (cw_skip (ew_then (cw_seq (cw_block (cw_seq (cw_region (lw_op Z Z Z (ow_move Z Z ?_))))))))
   replace hb6 := bind_some hb6
   obtain ⟨x1, hx1, hb6⟩ := hb6
   refine lw_op Z Z Z (ow_index (R := (RSlice RSpan)) Z Z Z (VRep.mono hl6 hv2) Tryd.underlying73 (Tryd.sizeOf71 _) (Tryd.isAgg71 _) hx1 fun v5 hv5 => lw_op Z Z Z (ow_assign Z Z (lw_op Z Z Z (ow_assign Z Z (lw_nil (ew_then ?_))))))
   replace hb6 := bind_some hb6
   obtain ⟨z1, hz1, hb6⟩ := hb6
   refine cw_sub (E' := [(2, (.pointer (some ⟨g1, 0, none⟩))), (3, (.pointer (some ⟨g2, 0, none⟩))), (4, (.int .i64 k1)), (5, v5), (8, v2), (9, (.int .i64 k1))]) ⟨Z, Z, Z, Z, Z, Z, trivial⟩ (cw_drawQ 5 [PEq (.pointer (some ⟨g2, 0, none⟩)), PEq (.slice A1 mk1.length c1), PEq (.int .i64 k1), PV (RSlice RSpan) M2 x1, PV (RSlice RSpan) M2 z1] (by kernel_rfl) Z (by kernel_rfl) ⟨PEq.mono _, PEq.mono _, PEq.mono _, PV.mono _ _ _, PV.mono _ _ _, trivial⟩ ⟨?_, ?_, ?_, ?_, ?_, trivial⟩ ?_)
   ·
    intro w8 D hS1 hd1
    exact dg_sub (E' := [(3, (.pointer (some ⟨g2, 0, none⟩)))]) ⟨Z, trivial⟩ (dg_plain Z (ow_fieldAddr Z Z Tryd.underlying25 Z (Tryd.sizeOf23 _) ⟨BX.refl _ _, Z⟩))
   ·
    intro w9 D hS2 hd2
    have ho14 := ho8.no hS2
    exact dg_sub (E' := [(13, (.pointer (some ⟨g2, 0, none⟩)))]) ⟨(dpE hd2 0 Z Z), trivial⟩ (dg_plain Z (ow_loadOwn1 Z Z Z ho14 (Tryd.isAgg23 _) Z ⟨BX.refl _ _, Z⟩))
   ·
    intro w10 D hS3 hd3
    exact dg_sub (E' := [(4, (.int .i64 k1))]) ⟨Z, trivial⟩ (dg_plain Z (ow_move Z Z ⟨BX.refl _ _, Z⟩))
   ·
    intro w11 D hS4 hd4
    have hl11 := Le.no M2 hS4
    exact dg_sub (E' := [(5, v5)]) ⟨Z, trivial⟩ (dg_plain Z (ow_move Z Z ⟨BX.refl _ _, (VRep.mono hl11 hv5)⟩))
   ·
    intro w12 D hS5 hd5
    have hC12 := hC6.no hS5
    have d2 : PV (RSlice RSpan) M2 x1 (D 3) w12 := dpA hd5 3 Z
    generalize hq1 : (D 3) = v7 at d2
    exact dg_sub (E' := [(16, v7)]) ⟨(congrArg some hq1), trivial⟩ (dg_plain Z (ow_appendCopy (R := RSpan) Z Z Z Z Tryd.underlying71 hi79 hz79 hs79 hy79 Z Z Z Z d2 hz1 hC12 fun v8 w13 hw3 hb8 hl13 hC13 => ⟨hb8, hw3⟩))
   ·
    intro w14 D hS6 hd6
    have d7 : PV (RSlice RSpan) M2 z1 (D 4) w14 := dpA hd6 4 Z
    have hl14 := Le.no M2 hS6
    have hC14 := hC6.no hS6
    have ho23 := ho7.no hS6
    have ho24 := ho8.no hS6
    have hr11 := hw1.no hS6
    generalize hq2 : (D 4) = v9 at d7
    refine lw_sub (E' := [(14, (.slice A1 mk1.length c1)), (15, (.int .i64 k1)), (17, v9), (2, (.pointer (some ⟨g1, 0, none⟩))), (3, (.pointer (some ⟨g2, 0, none⟩))), (4, (.int .i64 k1)), (5, v5), (8, v2), (9, (.int .i64 k1))]) ⟨(dpE hd6 1 Z Z), (dpE hd6 2 Z Z), (congrArg some hq2), Z, Z, Z, Z, Z, Z, trivial⟩ ?_
    replace hb6 := bind_some hb6
    obtain ⟨x2, hx2, hb6⟩ := hb6
    refine lw_op Z Z Z (ow_indexRow (R := (RSlice RSpan)) Z Z Z hr11 Tryd.underlying23 (Tryd.sizeOf71 _) hx2 (lw_op0 Z Z (ow_storeElRow (X := No) (R := (RSlice RSpan)) (S := (RSlice RSpan)) Z Z Z Z hr11 (orow_blk hr11 hx2) hx2 (FldSet.whole (RSlice RSpan)) (Tryd.sizeOf71 _) d7 (Nat.le_refl _) hC14 fun w15 ho25 hb9 hl15 hC15 => ?_)))
    have ho26 := ho23.go hb9 (fun e => (orow_ne hr11 ho23 (by decide)) (by rw [orow_blk hr11 hx2]; exact congrArg some e.symm))
    have ho27 := ho24.go hb9 (fun e => (orow_ne hr11 ho24 (by decide)) (by rw [orow_blk hr11 hx2]; exact congrArg some e.symm))
    refine lw_nil (ew_blockN (ew_then (cw_region (lw_op Z Z Z (ow_add Z Z Z (lw_op Z Z Z (ow_move Z Z (lw_nil ?_))))))))
    have lz3 := ((hl6.trans hl14).trans hl15)
    exact ew_nxt ((W (k1 + 1)), (List.set y1 (k1 : Int).toNat z1)) hb6 fun a ha => ⟨M2, (ha.sub ⟨Z, Z, Z, Z, trivial⟩), lz3, hC15, ho25, ho26, hm5, ho27, hm6⟩
  ·
   obtain rfl := hbb1.trans hc1
   exact cw_false Z (cw_exit (ew_thenX (ew_thenX (ew_blockX (ew_brk (k1, y1) hb6 fun a ha => ⟨M2, (ha.sub ⟨Z, Z, Z, Z, trivial⟩), hl6, hC6, hw1, ho7, hm5, ho8, hm6⟩)))))
 ·
  rintro ⟨k2, y2⟩ a w16 hlr2 ⟨M3, hF2, hl16, hC16, hw4, ho28, hm7, ho29, hm8⟩
  subst hlr2
  refine ew_at (E := [(2, (.pointer (some ⟨g1, 0, none⟩))), (3, (.pointer (some ⟨g2, 0, none⟩))), (8, v2), (9, (.int .i64 k2))]) hF2 (ew_then (cw_seq (cw_region (lw_op Z Z Z (ow_loadOwnA Z Z Z ho29 (Tryd.isAgg25 _) (Tryd.sizeOf25 _) Z ?_)))))
  have hw5 := hw4.freezeDel
  have hC17 := hw4.cxDel hC16 (fun _ e => e.elim) hO
  have hm9 : (Del (.slice A1 mk1.length c1) M3) g1 := ⟨hm7, fun e => (orow_ne hw4 ho28 (by decide)) e⟩
  refine lw_op0 Z Z (ow_store (X := No) (us := [(.slice A1 mk1.length c1)]) (cs' := #[(.slice A1 mk1.length c1)]) Z Z Z Z ho28 (Tryd.sizeOf25 _) Z Z Z Z hm9 (.inl hg2) Z hC17 fun w17 ho30 hb10 hl18 hC18 => lw_nil (ew_then (cw_ret ?_)))
  have hw7 : VRep RBox w17 (Del (.slice A1 mk1.length c1) M3) ({ Sides := y2 } : Box) (.agg #[(.slice A1 mk1.length c1)]) := shut_Box (VRep.mono hl18 hw5)
  obtain rfl := Option.some.inj h
  exact ew_ret (res1 Z (.cell Z (own_loadVarA ho30 (Tryd.isAgg25 _) (Tryd.sizeOf25 _) Z))) ⟨_, Z, (hw7.mono hC18.back), hC18.bx⟩

theorem w_impl_TestsBox {w : World} {M : Nat → Prop} (hG : ARep (RArr 4 RShape) w M shapes ⟨0, 0, none⟩) (hO : ∀ b, M b → b < w.heap.size) {v0p : Value} {a_list : List Test} (h0 : VRep (RSlice RTest) w M a_list v0p) {r : Box} (h : F.impl_TestsBox a_list = some r) :
  Calls Tryd.prog 20 [v0p].toArray w fun e w' => ∃ v, e = .returned v ∧ VRep RBox w' M r v ∧ BX No w w' := by
 have hC : Cx No w M w M := Cx.start hO (fun _ e => e.elim)
 refine walk (N := 10) Tryd.func20 Z Tryd.ntmps20 Z (cw_seq (cw_region (lw_op Z Z Z (ow_alloc Z (Tryd.zeroValue25 _) hC fun g1 w1 hg1 hg2 ho1 hb1 hl1 hC1 => ?_))))
 have hm1 : (Add g1 M) g1 := .inl Z
 refine lw_nil (ew_then (cw_seq (cw_seq (cw_region (lw_op Z Z Z (ow_move Z Z ?_))))))
 replace h := bind_some h
 obtain ⟨x1, hx1, h⟩ := h
 refine lw_op Z Z Z (ow_call Z Z Tryd.call56 (w_impl_TestsValid (hG.mono hl1) hC1.old (VRep.mono hl1 h0) hx1) fun v1 w2 hv1 => ?_)
 obtain ⟨hv1, hb2⟩ := hv1
 have hl2 := Le.no (Add g1 M) hb2
 have hC2 := hC1.no hb2
 have ho2 := ho1.no hb2
 obtain rfl := vbool_eq hv1
 refine lw_op Z Z Z (ow_not Z Z (lw_nil (ew_then ?_)))
 replace h := cond_some h
 rcases h with ⟨hc1, h⟩ | ⟨hc1, h⟩
 ·
  subst hc1
  refine cw_false Z (cw_skip (ew_then (cw_seq (cw_region (lw_op Z Z Z (ow_move Z Z ?_))))))
  replace h := bind_some h
  obtain ⟨x2, hx2, h⟩ := h
  refine lw_op Z Z Z (ow_call Z Z Tryd.call57 (w_impl_testsSides (hG.mono (hl1.trans hl2)) hC2.old (VRep.mono (hl1.trans hl2) h0) hx2) fun v2 w3 hv2 => ?_)
  obtain ⟨hv2, hb3⟩ := hv2
  have hl3 := Le.no (Add g1 M) hb3
  have hC3 := hC2.no hb3
  have ho3 := ho2.no hb3
  replace h := bind_some h
  obtain ⟨x3, hx3, h⟩ := h
  have lz1 := ((hl1.trans hl2).trans hl3)
  refine lw_op Z Z Z (ow_call Z Z Tryd.call58 (w_impl_sides_box (hG.mono lz1) hC3.old hv2 hx3) fun v3 w4 hv3 => ?_)
  obtain ⟨hv3, hb4⟩ := hv3
  have hC4 := hC3.no hb4
  have ho4 := ho3.no hb4
  obtain ⟨A1, c1, rfl, hw1⟩ := open_Box hv3
  refine lw_op0 Z Z (ow_store (X := No) (us := [(.slice A1 x3.Sides.length c1)]) (cs' := #[(.slice A1 x3.Sides.length c1)]) Z Z Z Z ho4 (Tryd.sizeOf25 _) Z Z Z Z hm1 (.inl hg2) Z hC4 fun w5 ho5 hb5 hl5 hC5 => lw_nil (ew_then (cw_ret ?_)))
  have hw2 : VRep RBox w5 (Add g1 M) ({ Sides := x3.Sides } : Box) (.agg #[(.slice A1 x3.Sides.length c1)]) := shut_Box (VRep.mono hl5 hw1)
  obtain rfl := Option.some.inj h
  exact ew_ret (res1 Z (.cell Z (own_loadVarA ho5 (Tryd.isAgg25 _) (Tryd.sizeOf25 _) Z))) ⟨_, Z, (hw2.mono hC5.back), hC5.bx⟩
 ·
  subst hc1
  refine cw_true Z (cw_seq (cw_region (lw_op Z Z Z (ow_build (v := .agg #[(.slice none 0 0)]) Z Z (by kernel_rfl) (lw_op0 Z Z (ow_store (X := No) (us := [(.slice none 0 0)]) (cs' := #[(.slice none 0 0)]) Z Z Z Z ho2 (Tryd.sizeOf25 _) Z Z Z Z hm1 (.inl hg2) Z hC2 fun w6 ho6 hb6 hl6 hC6 => lw_nil (ew_then (cw_ret (ew_thenR ?_)))))))))
  have hw4 : VRep RBox w6 (Add g1 M) ({ Sides := ([] : List (List Span)) } : Box) (.agg #[(.slice none 0 0)]) := shut_Box (VRep.mono hl6 (vslice_nil (R := (RSlice RSpan)) (w := w2) (M := (Add g1 M))))
  obtain rfl := Option.some.inj h
  exact ew_ret (res1 Z (.cell Z (own_loadVarA ho6 (Tryd.isAgg25 _) (Tryd.sizeOf25 _) Z))) ⟨_, Z, (hw4.mono hC6.back), hC6.bx⟩

theorem w_laws_FnBoxTests {w : World} {M : Nat → Prop} (hG : ARep (RArr 4 RShape) w M shapes ⟨0, 0, none⟩) (hO : ∀ b, M b → b < w.heap.size) {v0p : Value} {a_code : List Int} (h0 : VRep (RSlice RU8) w M a_code v0p) {r : Bool} (h : F.laws_FnBoxTests a_code = some r) :
  Calls Tryd.prog 3 [v0p].toArray w fun e w' => ∃ v, e = .returned v ∧ VRep RBool w' M r v ∧ BX No w w' := by
 have hC : Cx No w M w M := Cx.start hO (fun _ e => e.elim)
 refine walk (N := 86) Tryd.func3 Z Tryd.ntmps3 Z (cw_seq (cw_region (lw_op Z Z Z (ow_assign Z Z (lw_nil (ew_then (cw_seq (cw_seq (cw_region (lw_op Z Z Z (ow_move Z Z (lw_op Z Z Z (ow_len Z Z h0 Tryd.underlying22 Z (lw_op Z Z Z (ow_gtr Z Z Z fun bb1 hbb1 => lw_nil (ew_then ?_))))))))))))))))
 replace h := cond_some h
 rcases h with ⟨hc1, h⟩ | ⟨hc1, h⟩
 ·
  obtain rfl := hbb1.trans hc1
  refine cw_true Z (cw_seq (cw_region (lw_op Z Z Z (ow_assign Z Z (lw_nil (ew_then (cw_ret (ew_thenR ?_))))))))
  obtain rfl := Option.some.inj h
  exact ew_ret (res1 Z (.tmp Z)) ⟨_, Z, ((vbool _)), hC.bx⟩
 ·
  obtain rfl := hbb1.trans hc1
  refine cw_false Z (cw_skip (ew_then (cw_seq (cw_region (lw_op Z Z Z (ow_move Z Z ?_))))))
  replace h := bind_some h
  obtain ⟨x1, hx1, h⟩ := h
  refine lw_op Z Z Z (ow_call Z Z Tryd.call15 (w_spec_DrawBoxTests hG hC.old h0 hx1) fun v1 w1 hv1 => ?_)
  obtain ⟨hv1, hb1⟩ := hv1
  have hl1 := Le.no M hb1
  have hC1 := hC.no hb1
  refine lw_allocStore (R := RBox) Z Z Z Z Z Z Z Tryd.zeroValue25 Tryd.sizeOf25 Z Z Z (by simp) hv1 hC1 fun p1 w2 hp1 hb2 hl2 hC2 => lw_nil (ew_then (cw_seq (cw_region (lw_op Z Z Z (ow_load (R := RBox) Z Z hp1 (Tryd.sizeOf25 _) (Tryd.isAgg25 _) fun v2 hv2 => ?_)))))
  replace h := bind_some h
  obtain ⟨x2, hx2, h⟩ := h
  refine lw_op Z Z Z (ow_call Z Z Tryd.call16 (w_impl_BoxTests (hG.mono (hl1.trans hl2)) hC2.old hv2 hx2) fun v3 w3 hv3 => ?_)
  obtain ⟨⟨v4, v5, rfl, hv4, hv5⟩, hb3⟩ := hv3
  have hl3 := Le.no M hb3
  have hC3 := hC2.no hb3
  obtain ⟨bb2, hbb2, rfl⟩ := vbool_ex hv5
  refine lw_op Z Z Z (ow_move Z Z (lw_op Z Z Z (ow_extract Z Z Z (lw_op Z Z Z (ow_extract Z Z Z (lw_op Z Z Z (ow_assign Z Z (lw_op Z Z Z (ow_assign Z Z (lw_nil (ew_then (cw_seq (cw_region (lw_op Z Z Z (ow_load (R := RBox) Z Z (ARep.mono hl3 hp1) (Tryd.sizeOf25 _) (Tryd.isAgg25 _) fun v6 hv6 => ?_)))))))))))))))
  replace h := bind_some h
  obtain ⟨x3, hx3, h⟩ := h
  have lz1 := ((hl1.trans hl2).trans hl3)
  refine lw_op Z Z Z (ow_call Z Z Tryd.call17 (w_spec_BoxTests (hG.mono lz1) hC3.old hv6 hx3) fun v7 w4 hv7 => ?_)
  obtain ⟨⟨v8, v9, rfl, hv8, hv9⟩, hb4⟩ := hv7
  have hl4 := Le.no M hb4
  have hC4 := hC3.no hb4
  obtain ⟨bb3, hbb3, rfl⟩ := vbool_ex hv9
  refine lw_op Z Z Z (ow_move Z Z (lw_op Z Z Z (ow_extract Z Z Z (lw_op Z Z Z (ow_extract Z Z Z (lw_op Z Z Z (ow_assign Z Z (lw_op Z Z Z (ow_assign Z Z (lw_nil (ew_then (cw_seq (cw_seq (cw_region (lw_op Z Z Z (ow_move Z Z (lw_op Z Z Z (ow_len Z Z (VRep.mono hl4 hv4) Tryd.underlying27 Z (lw_op Z Z Z (ow_move Z Z (lw_op Z Z Z (ow_len Z Z hv8 Tryd.underlying27 Z (lw_op Z Z Z (ow_neqI Z Z Z fun bb4 hbb4 => lw_op Z Z Z (ow_move Z Z ?_)))))))))))))))))))))))))
  replace h := cond_some h
  rcases h with ⟨hc2, h⟩ | ⟨hc2, h⟩
  ·
   obtain rfl := hbb4.trans hc2
   refine lw_off Z Z Z Z Z Z (lw_off Z Z Z Z Z Z (lw_off Z Z Z Z Z Z (lw_op Z Z Z (ow_pickT Z Z Z (lw_nil (ew_then (cw_true Z (cw_seq (cw_region (lw_op Z Z Z (ow_assign Z Z (lw_nil (ew_then (cw_ret (ew_thenR ?_)))))))))))))))
   obtain rfl := Option.some.inj h
   exact ew_ret (res1 Z (.tmp Z)) ⟨_, Z, ((vbool _)), hC4.bx⟩
  ·
   obtain rfl := hbb4.trans hc2
   refine lw_on Z Z Z Z Z Z (ow_move Z Z (lw_on Z Z Z Z Z Z (ow_move Z Z (lw_on Z Z Z Z Z Z (ow_neqB Z Z Z Tryd.underlying4 fun bb5 hbb5 => ?_)))))
   have hbb5' : bb5 = (x2.2 != x3.2) := hbb5.trans (by rw [hbb2, hbb3])
   refine lw_op Z Z Z (ow_pickF Z Z Z (lw_nil (ew_then ?_)))
   replace h := cond_some h
   rcases h with ⟨hc3, h⟩ | ⟨hc3, h⟩
   ·
    obtain rfl := hbb5'.trans hc3
    refine cw_true Z (cw_seq (cw_region (lw_op Z Z Z (ow_assign Z Z (lw_nil (ew_then (cw_ret (ew_thenR ?_))))))))
    obtain rfl := Option.some.inj h
    exact ew_ret (res1 Z (.tmp Z)) ⟨_, Z, ((vbool _)), hC4.bx⟩
   ·
    obtain rfl := hbb5'.trans hc3
    refine cw_false Z (cw_skip (ew_then (cw_seq (cw_seq (cw_region (lw_op Z Z Z (ow_assign Z Z (lw_nil (ew_then ?_)))))))))
    replace h := bind_some h
    obtain ⟨lr1, hlr1, h⟩ := h
    refine cw_for hlr1 (fun s a w' => ∃ (M' : Nat → Prop), Fits 86 [(3, (.pointer (some p1))), (4, v4), (5, (.bool bb2)), (6, v8), (8, (.int .i64 s))] a ∧ Le w4 M w' M' ∧ Cx No w M w' M') ?_ ?_ ?_
    ·
     intro a ha
     exact ⟨M, ha.sub ⟨Z, Z, Z, Z, Z, trivial⟩, Le.refl _ _, hC4⟩
    ·
     rintro k1 a w5 sr1 ⟨M1, hF1, hl5, hC5⟩ hb5 hR1
     refine cw_at (E := [(3, (.pointer (some p1))), (4, v4), (5, (.bool bb2)), (6, v8), (8, (.int .i64 k1))]) hF1 (cw_seq (cw_seq (cw_region (lw_op Z Z Z (ow_move Z Z (lw_op Z Z Z (ow_move Z Z (lw_op Z Z Z (ow_len Z Z (VRep.mono (hl4.trans hl5) hv4) Tryd.underlying27 Z (lw_op Z Z Z (ow_lss Z Z Z fun bb6 hbb6 => lw_nil (ew_then ?_))))))))))))
     replace hb5 := cond_some hb5
     rcases hb5 with ⟨hc4, hb5⟩ | ⟨hc4, hb5⟩
     ·
      obtain rfl := hbb6.trans hc4
      refine cw_true Z (cw_skip (ew_then (cw_seq (cw_block (cw_seq ?_)))))
      replace hb5 := bind_some hb5
      obtain ⟨x4, hx4, hb5⟩ := hb5
      replace hb5 := bind_some hb5
      obtain ⟨x5, hx5, hb5⟩ := hb5
      replace hb5 := cond_some hb5
      rcases hb5 with ⟨hc5, hb5⟩ | ⟨hc5, hb5⟩
      ·
       have lz4 := (hl4.trans hl5)
       refine cw_sub (E' := [(3, (.pointer (some p1))), (4, v4), (5, (.bool bb2)), (6, v8), (8, (.int .i64 k1))]) ⟨Z, Z, Z, Z, Z, trivial⟩ (cw_drawQ 24 [PV (RSlice RTest) M1 x2.1, PEq (.int .i64 k1), PA RTest M1 x4, PV RTest M1 x4, PV (RSlice RTest) M1 x3.1, PEq (.int .i64 k1), PA RTest M1 x5, PV RTest M1 x5, PEq (.bool true), PEq (.bool true), PEq undef, PEq undef, PEq undef, PEq undef, PEq undef, PEq undef, PEq undef, PEq undef, PEq undef, PEq undef, PEq undef, PEq undef, PEq undef, PEq undef] (by kernel_rfl) Z (by kernel_rfl) ⟨PV.mono _ _ _, PEq.mono _, PA.mono _ _ _, PV.mono _ _ _, PV.mono _ _ _, PEq.mono _, PA.mono _ _ _, PV.mono _ _ _, PEq.mono _, PEq.mono _, PEq.mono _, PEq.mono _, PEq.mono _, PEq.mono _, PEq.mono _, PEq.mono _, PEq.mono _, PEq.mono _, PEq.mono _, PEq.mono _, PEq.mono _, PEq.mono _, PEq.mono _, PEq.mono _, trivial⟩ ⟨?_, ?_, ?_, ?_, ?_, ?_, ?_, ?_, ?_, ?_, ?_, ?_, ?_, ?_, ?_, ?_, ?_, ?_, ?_, ?_, ?_, ?_, ?_, ?_, trivial⟩ ?_)
       ·
        intro w6 D hS1 hd1
        have hl6 := Le.no M1 hS1
        exact dg_sub (E' := [(4, v4)]) ⟨Z, trivial⟩ (dg_plain Z (ow_move Z Z ⟨BX.refl _ _, (VRep.mono (lz4.trans hl6) hv4)⟩))
       ·
        intro w7 D hS2 hd2
        exact dg_sub (E' := [(8, (.int .i64 k1))]) ⟨Z, trivial⟩ (dg_plain Z (ow_move Z Z ⟨BX.refl _ _, Z⟩))
       ·
        intro w8 D hS3 hd3
        have d1 : PV (RSlice RTest) M1 x2.1 (D 0) w8 := dpA hd3 0 Z
        generalize hq1 : (D 0) = v13 at d1
        exact dg_sub (E' := [(40, v13), (41, (.int .i64 k1))]) ⟨(congrArg some hq1), (dpE hd3 1 Z Z), trivial⟩ (dg_plain Z (ow_indexSlice (R := RTest) Z Z Z d1 Tryd.underlying27 (Tryd.sizeOf31 _) hx4 fun p4 hp4 => ⟨BX.refl _ _, ⟨_, Z, hp4⟩⟩))
       ·
        intro w9 D hS4 hd4
        have d3 : PA RTest M1 x4 (D 2) w9 := dpA hd4 2 Z
        obtain ⟨p5, e1, ha1⟩ := d3
        exact dg_sub (E' := [(42, (.pointer (some p5)))]) ⟨(congrArg some e1), trivial⟩ (dg_plain Z (ow_load (R := RTest) Z Z ha1 (Tryd.sizeOf31 _) (Tryd.isAgg31 _) fun v14 hv14 => ⟨BX.refl _ _, hv14⟩))
       ·
        intro w10 D hS5 hd5
        have hl10 := Le.no M1 hS5
        exact dg_sub (E' := [(6, v8)]) ⟨Z, trivial⟩ (dg_plain Z (ow_move Z Z ⟨BX.refl _ _, (VRep.mono (hl5.trans hl10) hv8)⟩))
       ·
        intro w11 D hS6 hd6
        exact dg_sub (E' := [(8, (.int .i64 k1))]) ⟨Z, trivial⟩ (dg_plain Z (ow_move Z Z ⟨BX.refl _ _, Z⟩))
       ·
        intro w12 D hS7 hd7
        have d4 : PV (RSlice RTest) M1 x3.1 (D 4) w12 := dpA hd7 4 Z
        generalize hq2 : (D 4) = v15 at d4
        exact dg_sub (E' := [(44, v15), (45, (.int .i64 k1))]) ⟨(congrArg some hq2), (dpE hd7 5 Z Z), trivial⟩ (dg_plain Z (ow_indexSlice (R := RTest) Z Z Z d4 Tryd.underlying27 (Tryd.sizeOf31 _) hx5 fun p6 hp6 => ⟨BX.refl _ _, ⟨_, Z, hp6⟩⟩))
       ·
        intro w13 D hS8 hd8
        have d6 : PA RTest M1 x5 (D 6) w13 := dpA hd8 6 Z
        obtain ⟨p7, e2, ha2⟩ := d6
        exact dg_sub (E' := [(46, (.pointer (some p7)))]) ⟨(congrArg some e2), trivial⟩ (dg_plain Z (ow_load (R := RTest) Z Z ha2 (Tryd.sizeOf31 _) (Tryd.isAgg31 _) fun v16 hv16 => ⟨BX.refl _ _, hv16⟩))
       ·
        intro w14 D hS9 hd9
        have d7 : PV RTest M1 x4 (D 3) w14 := dpA hd9 3 Z
        have d8 : PV RTest M1 x5 (D 7) w14 := dpA hd9 7 Z
        generalize hq3 : (D 3) = v17 at d7
        generalize hq4 : (D 7) = v18 at d8
        refine dg_sub (E' := [(43, v17), (47, v18)]) ⟨(congrArg some hq3), (congrArg some hq4), trivial⟩ ?_
        obtain rfl := open_Test d7
        obtain rfl := open_Test d8
        refine dg_plain Z (ow_neqS Z Z Z (Tryd.eqGuardType31) (eqS31 (x := x4) (y := x5) _) fun bb8 hbb8 => ?_)
        obtain rfl := hbb8.trans hc5
        exact ⟨BX.refl _ _, Z⟩
       ·
        intro w15 D hS10 hd10
        exact dg_sub (E' := [(48, (.bool true))]) ⟨(dpE hd10 8 Z Z), trivial⟩ (dg_plain Z (ow_move Z Z ⟨BX.refl _ _, Z⟩))
       ·
        intro w16 D hS11 hd11
        exact dg_sub (E' := [(49, (.bool true)), (8, (.int .i64 k1))]) ⟨(dpE hd11 9 Z Z), Z, trivial⟩ (dg_off Z Z Z Z ⟨BX.refl _ _, Z⟩)
       ·
        intro w17 D hS12 hd12
        exact dg_sub (E' := [(50, undef), (49, (.bool true))]) ⟨(dpE hd12 10 Z Z), (dpE hd12 9 Z Z), trivial⟩ (dg_off Z Z Z Z ⟨BX.refl _ _, Z⟩)
       ·
        intro w18 D hS13 hd13
        exact dg_sub (E' := [(51, undef), (49, (.bool true))]) ⟨(dpE hd13 11 Z Z), (dpE hd13 9 Z Z), trivial⟩ (dg_off Z Z Z Z ⟨BX.refl _ _, Z⟩)
       ·
        intro w19 D hS14 hd14
        exact dg_sub (E' := [(52, undef), (4, v4)]) ⟨(dpE hd14 12 Z Z), Z, trivial⟩ (dg_off' Z Z Z Z ⟨BX.refl _ _, Z⟩)
       ·
        intro w20 D hS15 hd15
        exact dg_sub (E' := [(52, undef), (8, (.int .i64 k1))]) ⟨(dpE hd15 12 Z Z), Z, trivial⟩ (dg_off' Z Z Z Z ⟨BX.refl _ _, Z⟩)
       ·
        intro w21 D hS16 hd16
        exact dg_sub (E' := [(54, undef), (52, undef)]) ⟨(dpE hd16 14 Z Z), (dpE hd16 12 Z Z), trivial⟩ (dg_off' Z Z Z Z ⟨BX.refl _ _, Z⟩)
       ·
        intro w22 D hS17 hd17
        exact dg_sub (E' := [(53, undef), (55, undef), (52, undef)]) ⟨(dpE hd17 13 Z Z), (dpE hd17 15 Z Z), (dpE hd17 12 Z Z), trivial⟩ (dg_off' Z Z Z Z ⟨BX.refl _ _, Z⟩)
       ·
        intro w23 D hS18 hd18
        exact dg_sub (E' := [(56, undef), (52, undef)]) ⟨(dpE hd18 16 Z Z), (dpE hd18 12 Z Z), trivial⟩ (dg_off' Z Z Z Z ⟨BX.refl _ _, Z⟩)
       ·
        intro w24 D hS19 hd19
        exact dg_sub (E' := [(57, undef), (52, undef)]) ⟨(dpE hd19 17 Z Z), (dpE hd19 12 Z Z), trivial⟩ (dg_off' Z Z Z Z ⟨BX.refl _ _, Z⟩)
       ·
        intro w25 D hS20 hd20
        exact dg_sub (E' := [(52, undef), (4, v4)]) ⟨(dpE hd20 12 Z Z), Z, trivial⟩ (dg_off' Z Z Z Z ⟨BX.refl _ _, Z⟩)
       ·
        intro w26 D hS21 hd21
        exact dg_sub (E' := [(52, undef), (8, (.int .i64 k1))]) ⟨(dpE hd21 12 Z Z), Z, trivial⟩ (dg_off' Z Z Z Z ⟨BX.refl _ _, Z⟩)
       ·
        intro w27 D hS22 hd22
        exact dg_sub (E' := [(59, undef), (60, undef), (52, undef)]) ⟨(dpE hd22 19 Z Z), (dpE hd22 20 Z Z), (dpE hd22 12 Z Z), trivial⟩ (dg_off' Z Z Z Z ⟨BX.refl _ _, Z⟩)
       ·
        intro w28 D hS23 hd23
        exact dg_sub (E' := [(61, undef), (52, undef)]) ⟨(dpE hd23 21 Z Z), (dpE hd23 12 Z Z), trivial⟩ (dg_off' Z Z Z Z ⟨BX.refl _ _, Z⟩)
       ·
        intro w29 D hS24 hd24
        exact dg_sub (E' := [(62, undef), (52, undef)]) ⟨(dpE hd24 22 Z Z), (dpE hd24 12 Z Z), trivial⟩ (dg_off' Z Z Z Z ⟨BX.refl _ _, Z⟩)
       ·
        intro w30 D hS25 hd25
        have hC30 := hC5.no hS25
        refine lw_sub (E' := [(49, (.bool true)), (52, undef), (58, undef), (63, undef), (3, (.pointer (some p1))), (4, v4), (5, (.bool bb2)), (6, v8), (8, (.int .i64 k1))]) ⟨(dpE hd25 9 Z Z), (dpE hd25 12 Z Z), (dpE hd25 18 Z Z), (dpE hd25 23 Z Z), Z, Z, Z, Z, Z, trivial⟩ (lw_off' Z Z Z Z Z Z (lw_off Z Z Z Z Z Z (lw_op Z Z Z (ow_pickT Z Z Z (lw_nil (ew_then (cw_true Z (cw_seq (cw_region (lw_op Z Z Z (ow_assign Z Z (lw_nil (ew_then (cw_ret (ew_blockR (ew_thenR (ew_thenR (ew_blockR (ew_brkR (ew_thenR ?_))))))))))))))))))))
        have e3 := hR1 _ (Option.some.inj hb5).symm
        subst e3
        obtain rfl := Option.some.inj h
        exact ew_ret (res1 Z (.tmp Z)) ⟨_, Z, ((vbool _)), hC30.bx⟩
      ·
       replace hb5 := cond_some hb5
       rcases hb5 with ⟨hc6, hb5⟩ | ⟨hc6, hb5⟩
       ·
        replace hb5 := bind_some hb5
        obtain ⟨x6, hx6, hb5⟩ := hb5
        have lz7 := (hl4.trans hl5)
        refine cw_sub (E' := [(3, (.pointer (some p1))), (4, v4), (5, (.bool bb2)), (6, v8), (8, (.int .i64 k1))]) ⟨Z, Z, Z, Z, Z, trivial⟩ (cw_drawQ 24 [PV (RSlice RTest) M1 x2.1, PEq (.int .i64 k1), PA RTest M1 x4, PV RTest M1 x4, PV (RSlice RTest) M1 x3.1, PEq (.int .i64 k1), PA RTest M1 x5, PV RTest M1 x5, PEq (.bool false), PEq (.bool false), PEq (.int .i64 k1), PEq (.bool true), PEq (.bool true), PV (RSlice RTest) M1 x2.1, PEq (.int .i64 k1), PEq (.int .i64 (W (k1 - 1))), PA RTest M1 x6, PA RInt M1 x6.Field, PEq (.int .i64 x6.Field), PV (RSlice RTest) M1 x2.1, PEq (.int .i64 k1), PA RTest M1 x4, PA RInt M1 x4.Field, PEq (.int .i64 x4.Field)] (by kernel_rfl) Z (by kernel_rfl) ⟨PV.mono _ _ _, PEq.mono _, PA.mono _ _ _, PV.mono _ _ _, PV.mono _ _ _, PEq.mono _, PA.mono _ _ _, PV.mono _ _ _, PEq.mono _, PEq.mono _, PEq.mono _, PEq.mono _, PEq.mono _, PV.mono _ _ _, PEq.mono _, PEq.mono _, PA.mono _ _ _, PA.mono _ _ _, PEq.mono _, PV.mono _ _ _, PEq.mono _, PA.mono _ _ _, PA.mono _ _ _, PEq.mono _, trivial⟩ ⟨?_, ?_, ?_, ?_, ?_, ?_, ?_, ?_, ?_, ?_, ?_, ?_, ?_, ?_, ?_, ?_, ?_, ?_, ?_, ?_, ?_, ?_, ?_, ?_, trivial⟩ ?_)
        ·
         intro w31 D hS26 hd26
         have hl31 := Le.no M1 hS26
         exact dg_sub (E' := [(4, v4)]) ⟨Z, trivial⟩ (dg_plain Z (ow_move Z Z ⟨BX.refl _ _, (VRep.mono (lz7.trans hl31) hv4)⟩))
        ·
         intro w32 D hS27 hd27
         exact dg_sub (E' := [(8, (.int .i64 k1))]) ⟨Z, trivial⟩ (dg_plain Z (ow_move Z Z ⟨BX.refl _ _, Z⟩))
        ·
         intro w33 D hS28 hd28
         have d60 : PV (RSlice RTest) M1 x2.1 (D 0) w33 := dpA hd28 0 Z
         generalize hq5 : (D 0) = v21 at d60
         exact dg_sub (E' := [(40, v21), (41, (.int .i64 k1))]) ⟨(congrArg some hq5), (dpE hd28 1 Z Z), trivial⟩ (dg_plain Z (ow_indexSlice (R := RTest) Z Z Z d60 Tryd.underlying27 (Tryd.sizeOf31 _) hx4 fun p10 hp10 => ⟨BX.refl _ _, ⟨_, Z, hp10⟩⟩))
        ·
         intro w34 D hS29 hd29
         have d62 : PA RTest M1 x4 (D 2) w34 := dpA hd29 2 Z
         obtain ⟨p11, e4, ha3⟩ := d62
         exact dg_sub (E' := [(42, (.pointer (some p11)))]) ⟨(congrArg some e4), trivial⟩ (dg_plain Z (ow_load (R := RTest) Z Z ha3 (Tryd.sizeOf31 _) (Tryd.isAgg31 _) fun v22 hv22 => ⟨BX.refl _ _, hv22⟩))
        ·
         intro w35 D hS30 hd30
         have hl35 := Le.no M1 hS30
         exact dg_sub (E' := [(6, v8)]) ⟨Z, trivial⟩ (dg_plain Z (ow_move Z Z ⟨BX.refl _ _, (VRep.mono (hl5.trans hl35) hv8)⟩))
        ·
         intro w36 D hS31 hd31
         exact dg_sub (E' := [(8, (.int .i64 k1))]) ⟨Z, trivial⟩ (dg_plain Z (ow_move Z Z ⟨BX.refl _ _, Z⟩))
        ·
         intro w37 D hS32 hd32
         have d63 : PV (RSlice RTest) M1 x3.1 (D 4) w37 := dpA hd32 4 Z
         generalize hq6 : (D 4) = v23 at d63
         exact dg_sub (E' := [(44, v23), (45, (.int .i64 k1))]) ⟨(congrArg some hq6), (dpE hd32 5 Z Z), trivial⟩ (dg_plain Z (ow_indexSlice (R := RTest) Z Z Z d63 Tryd.underlying27 (Tryd.sizeOf31 _) hx5 fun p12 hp12 => ⟨BX.refl _ _, ⟨_, Z, hp12⟩⟩))
        ·
         intro w38 D hS33 hd33
         have d65 : PA RTest M1 x5 (D 6) w38 := dpA hd33 6 Z
         obtain ⟨p13, e5, ha4⟩ := d65
         exact dg_sub (E' := [(46, (.pointer (some p13)))]) ⟨(congrArg some e5), trivial⟩ (dg_plain Z (ow_load (R := RTest) Z Z ha4 (Tryd.sizeOf31 _) (Tryd.isAgg31 _) fun v24 hv24 => ⟨BX.refl _ _, hv24⟩))
        ·
         intro w39 D hS34 hd34
         have d66 : PV RTest M1 x4 (D 3) w39 := dpA hd34 3 Z
         have d67 : PV RTest M1 x5 (D 7) w39 := dpA hd34 7 Z
         generalize hq7 : (D 3) = v25 at d66
         generalize hq8 : (D 7) = v26 at d67
         refine dg_sub (E' := [(43, v25), (47, v26)]) ⟨(congrArg some hq7), (congrArg some hq8), trivial⟩ ?_
         obtain rfl := open_Test d66
         obtain rfl := open_Test d67
         refine dg_plain Z (ow_neqS Z Z Z (Tryd.eqGuardType31) (eqS31 (x := x4) (y := x5) _) fun bb10 hbb10 => ?_)
         obtain rfl := hbb10.trans hc5
         exact ⟨BX.refl _ _, Z⟩
        ·
         intro w40 D hS35 hd35
         exact dg_sub (E' := [(48, (.bool false))]) ⟨(dpE hd35 8 Z Z), trivial⟩ (dg_plain Z (ow_move Z Z ⟨BX.refl _ _, Z⟩))
        ·
         intro w41 D hS36 hd36
         exact dg_sub (E' := [(49, (.bool false)), (8, (.int .i64 k1))]) ⟨(dpE hd36 9 Z Z), Z, trivial⟩ (dg_on Z Z Z Z (ow_move Z Z ⟨BX.refl _ _, Z⟩))
        ·
         intro w42 D hS37 hd37
         refine dg_sub (E' := [(50, (.int .i64 k1)), (49, (.bool false))]) ⟨(dpE hd37 10 Z Z), (dpE hd37 9 Z Z), trivial⟩ (dg_on Z Z Z Z (ow_gtr Z Z Z fun bb11 hbb11 => ?_))
         obtain rfl := hbb11.trans hc6
         exact ⟨BX.refl _ _, Z⟩
        ·
         intro w43 D hS38 hd38
         exact dg_sub (E' := [(51, (.bool true)), (49, (.bool false))]) ⟨(dpE hd38 11 Z Z), (dpE hd38 9 Z Z), trivial⟩ (dg_on Z Z Z Z (ow_move Z Z ⟨BX.refl _ _, Z⟩))
        ·
         intro w44 D hS39 hd39
         have hl44 := Le.no M1 hS39
         exact dg_sub (E' := [(52, (.bool true)), (4, v4)]) ⟨(dpE hd39 12 Z Z), Z, trivial⟩ (dg_on Z Z Z Z (ow_move Z Z ⟨BX.refl _ _, (VRep.mono (lz7.trans hl44) hv4)⟩))
        ·
         intro w45 D hS40 hd40
         exact dg_sub (E' := [(52, (.bool true)), (8, (.int .i64 k1))]) ⟨(dpE hd40 12 Z Z), Z, trivial⟩ (dg_on Z Z Z Z (ow_move Z Z ⟨BX.refl _ _, Z⟩))
        ·
         intro w46 D hS41 hd41
         exact dg_sub (E' := [(54, (.int .i64 k1)), (52, (.bool true))]) ⟨(dpE hd41 14 Z Z), (dpE hd41 12 Z Z), trivial⟩ (dg_on Z Z Z Z (ow_sub Z Z Z ⟨BX.refl _ _, Z⟩))
        ·
         intro w47 D hS42 hd42
         have d79 : PV (RSlice RTest) M1 x2.1 (D 13) w47 := dpA hd42 13 Z
         generalize hq9 : (D 13) = v27 at d79
         exact dg_sub (E' := [(53, v27), (55, (.int .i64 (W (k1 - 1)))), (52, (.bool true))]) ⟨(congrArg some hq9), (dpE hd42 15 Z Z), (dpE hd42 12 Z Z), trivial⟩ (dg_on Z Z Z Z (ow_indexSlice (R := RTest) Z Z Z d79 Tryd.underlying27 (Tryd.sizeOf31 _) hx6 fun p14 hp14 => ⟨BX.refl _ _, ⟨_, Z, hp14⟩⟩))
        ·
         intro w48 D hS43 hd43
         have d82 : PA RTest M1 x6 (D 16) w48 := dpA hd43 16 Z
         obtain ⟨p15, e6, ha5⟩ := d82
         exact dg_sub (E' := [(56, (.pointer (some p15))), (52, (.bool true))]) ⟨(congrArg some e6), (dpE hd43 12 Z Z), trivial⟩ (dg_on Z Z Z Z (ow_fieldAddr Z Z Tryd.underlying31 Z (Tryd.sizeOf3 _) ⟨BX.refl _ _, ⟨_, Z, (ha5.fld fld_Test_Field)⟩⟩))
        ·
         intro w49 D hS44 hd44
         have d84 : PA RInt M1 x6.Field (D 17) w49 := dpA hd44 17 Z
         obtain ⟨p16, e7, ha6⟩ := d84
         refine dg_sub (E' := [(57, (.pointer (some p16))), (52, (.bool true))]) ⟨(congrArg some e7), (dpE hd44 12 Z Z), trivial⟩ (dg_on Z Z Z Z (ow_load (R := RInt) Z Z ha6 (Tryd.sizeOf3 _) (Tryd.isAgg3 _) fun v28 hv28 => ?_))
         obtain rfl := vint_eq hv28
         exact ⟨BX.refl _ _, Z⟩
        ·
         intro w50 D hS45 hd45
         have hl50 := Le.no M1 hS45
         exact dg_sub (E' := [(52, (.bool true)), (4, v4)]) ⟨(dpE hd45 12 Z Z), Z, trivial⟩ (dg_on Z Z Z Z (ow_move Z Z ⟨BX.refl _ _, (VRep.mono (lz7.trans hl50) hv4)⟩))
        ·
         intro w51 D hS46 hd46
         exact dg_sub (E' := [(52, (.bool true)), (8, (.int .i64 k1))]) ⟨(dpE hd46 12 Z Z), Z, trivial⟩ (dg_on Z Z Z Z (ow_move Z Z ⟨BX.refl _ _, Z⟩))
        ·
         intro w52 D hS47 hd47
         have d88 : PV (RSlice RTest) M1 x2.1 (D 19) w52 := dpA hd47 19 Z
         generalize hq10 : (D 19) = v29 at d88
         exact dg_sub (E' := [(59, v29), (60, (.int .i64 k1)), (52, (.bool true))]) ⟨(congrArg some hq10), (dpE hd47 20 Z Z), (dpE hd47 12 Z Z), trivial⟩ (dg_on Z Z Z Z (ow_indexSlice (R := RTest) Z Z Z d88 Tryd.underlying27 (Tryd.sizeOf31 _) hx4 fun p17 hp17 => ⟨BX.refl _ _, ⟨_, Z, hp17⟩⟩))
        ·
         intro w53 D hS48 hd48
         have d91 : PA RTest M1 x4 (D 21) w53 := dpA hd48 21 Z
         obtain ⟨p18, e8, ha7⟩ := d91
         exact dg_sub (E' := [(61, (.pointer (some p18))), (52, (.bool true))]) ⟨(congrArg some e8), (dpE hd48 12 Z Z), trivial⟩ (dg_on Z Z Z Z (ow_fieldAddr Z Z Tryd.underlying31 Z (Tryd.sizeOf3 _) ⟨BX.refl _ _, ⟨_, Z, (ha7.fld fld_Test_Field)⟩⟩))
        ·
         intro w54 D hS49 hd49
         have d93 : PA RInt M1 x4.Field (D 22) w54 := dpA hd49 22 Z
         obtain ⟨p19, e9, ha8⟩ := d93
         refine dg_sub (E' := [(62, (.pointer (some p19))), (52, (.bool true))]) ⟨(congrArg some e9), (dpE hd49 12 Z Z), trivial⟩ (dg_on Z Z Z Z (ow_load (R := RInt) Z Z ha8 (Tryd.sizeOf3 _) (Tryd.isAgg3 _) fun v30 hv30 => ?_))
         obtain rfl := vint_eq hv30
         exact ⟨BX.refl _ _, Z⟩
        ·
         intro w55 D hS50 hd50
         have hl55 := Le.no M1 hS50
         have hC55 := hC5.no hS50
         refine lw_sub (E' := [(49, (.bool false)), (52, (.bool true)), (58, (.int .i64 x6.Field)), (63, (.int .i64 x4.Field)), (3, (.pointer (some p1))), (4, v4), (5, (.bool bb2)), (6, v8), (8, (.int .i64 k1))]) ⟨(dpE hd50 9 Z Z), (dpE hd50 12 Z Z), (dpE hd50 18 Z Z), (dpE hd50 23 Z Z), Z, Z, Z, Z, Z, trivial⟩ (lw_on Z Z Z Z Z Z (ow_geq Z Z Z fun bb12 hbb12 => lw_on Z Z Z Z Z Z (ow_pickT Z Z Z (lw_op Z Z Z (ow_pickF Z Z Z (lw_nil (ew_then ?_)))))))
         replace hb5 := cond_some hb5
         rcases hb5 with ⟨hc7, hb5⟩ | ⟨hc7, hb5⟩
         ·
          obtain rfl := hbb12.trans hc7
          refine cw_true Z (cw_seq (cw_region (lw_op Z Z Z (ow_assign Z Z (lw_nil (ew_then (cw_ret (ew_blockR (ew_thenR (ew_thenR (ew_blockR (ew_brkR (ew_thenR ?_)))))))))))))
          have e10 := hR1 _ (Option.some.inj hb5).symm
          subst e10
          obtain rfl := Option.some.inj h
          exact ew_ret (res1 Z (.tmp Z)) ⟨_, Z, ((vbool _)), hC55.bx⟩
         ·
          obtain rfl := hbb12.trans hc7
          exact cw_false Z (cw_skip (ew_blockN (ew_then (cw_region (lw_op Z Z Z (ow_move Z Z (lw_op Z Z Z (ow_add Z Z Z (lw_op Z Z Z (ow_assign Z Z (lw_nil (ew_nxt (W (k1 + 1)) hb5 fun a ha => ⟨M1, (ha.sub ⟨Z, Z, Z, Z, Z, trivial⟩), (hl5.trans hl55), hC55⟩))))))))))))
       ·
        have lz10 := (hl4.trans hl5)
        refine cw_sub (E' := [(3, (.pointer (some p1))), (4, v4), (5, (.bool bb2)), (6, v8), (8, (.int .i64 k1))]) ⟨Z, Z, Z, Z, Z, trivial⟩ (cw_drawQ 24 [PV (RSlice RTest) M1 x2.1, PEq (.int .i64 k1), PA RTest M1 x4, PV RTest M1 x4, PV (RSlice RTest) M1 x3.1, PEq (.int .i64 k1), PA RTest M1 x5, PV RTest M1 x5, PEq (.bool false), PEq (.bool false), PEq (.int .i64 k1), PEq (.bool false), PEq (.bool false), PEq undef, PEq undef, PEq undef, PEq undef, PEq undef, PEq undef, PEq undef, PEq undef, PEq undef, PEq undef, PEq undef] (by kernel_rfl) Z (by kernel_rfl) ⟨PV.mono _ _ _, PEq.mono _, PA.mono _ _ _, PV.mono _ _ _, PV.mono _ _ _, PEq.mono _, PA.mono _ _ _, PV.mono _ _ _, PEq.mono _, PEq.mono _, PEq.mono _, PEq.mono _, PEq.mono _, PEq.mono _, PEq.mono _, PEq.mono _, PEq.mono _, PEq.mono _, PEq.mono _, PEq.mono _, PEq.mono _, PEq.mono _, PEq.mono _, PEq.mono _, trivial⟩ ⟨?_, ?_, ?_, ?_, ?_, ?_, ?_, ?_, ?_, ?_, ?_, ?_, ?_, ?_, ?_, ?_, ?_, ?_, ?_, ?_, ?_, ?_, ?_, ?_, trivial⟩ ?_)
        ·
         intro w56 D hS51 hd51
         have hl56 := Le.no M1 hS51
         exact dg_sub (E' := [(4, v4)]) ⟨Z, trivial⟩ (dg_plain Z (ow_move Z Z ⟨BX.refl _ _, (VRep.mono (lz10.trans hl56) hv4)⟩))
        ·
         intro w57 D hS52 hd52
         exact dg_sub (E' := [(8, (.int .i64 k1))]) ⟨Z, trivial⟩ (dg_plain Z (ow_move Z Z ⟨BX.refl _ _, Z⟩))
        ·
         intro w58 D hS53 hd53
         have d119 : PV (RSlice RTest) M1 x2.1 (D 0) w58 := dpA hd53 0 Z
         generalize hq11 : (D 0) = v31 at d119
         exact dg_sub (E' := [(40, v31), (41, (.int .i64 k1))]) ⟨(congrArg some hq11), (dpE hd53 1 Z Z), trivial⟩ (dg_plain Z (ow_indexSlice (R := RTest) Z Z Z d119 Tryd.underlying27 (Tryd.sizeOf31 _) hx4 fun p20 hp20 => ⟨BX.refl _ _, ⟨_, Z, hp20⟩⟩))
        ·
         intro w59 D hS54 hd54
         have d121 : PA RTest M1 x4 (D 2) w59 := dpA hd54 2 Z
         obtain ⟨p21, e11, ha9⟩ := d121
         exact dg_sub (E' := [(42, (.pointer (some p21)))]) ⟨(congrArg some e11), trivial⟩ (dg_plain Z (ow_load (R := RTest) Z Z ha9 (Tryd.sizeOf31 _) (Tryd.isAgg31 _) fun v32 hv32 => ⟨BX.refl _ _, hv32⟩))
        ·
         intro w60 D hS55 hd55
         have hl60 := Le.no M1 hS55
         exact dg_sub (E' := [(6, v8)]) ⟨Z, trivial⟩ (dg_plain Z (ow_move Z Z ⟨BX.refl _ _, (VRep.mono (hl5.trans hl60) hv8)⟩))
        ·
         intro w61 D hS56 hd56
         exact dg_sub (E' := [(8, (.int .i64 k1))]) ⟨Z, trivial⟩ (dg_plain Z (ow_move Z Z ⟨BX.refl _ _, Z⟩))
        ·
         intro w62 D hS57 hd57
         have d122 : PV (RSlice RTest) M1 x3.1 (D 4) w62 := dpA hd57 4 Z
         generalize hq12 : (D 4) = v33 at d122
         exact dg_sub (E' := [(44, v33), (45, (.int .i64 k1))]) ⟨(congrArg some hq12), (dpE hd57 5 Z Z), trivial⟩ (dg_plain Z (ow_indexSlice (R := RTest) Z Z Z d122 Tryd.underlying27 (Tryd.sizeOf31 _) hx5 fun p22 hp22 => ⟨BX.refl _ _, ⟨_, Z, hp22⟩⟩))
        ·
         intro w63 D hS58 hd58
         have d124 : PA RTest M1 x5 (D 6) w63 := dpA hd58 6 Z
         obtain ⟨p23, e12, ha10⟩ := d124
         exact dg_sub (E' := [(46, (.pointer (some p23)))]) ⟨(congrArg some e12), trivial⟩ (dg_plain Z (ow_load (R := RTest) Z Z ha10 (Tryd.sizeOf31 _) (Tryd.isAgg31 _) fun v34 hv34 => ⟨BX.refl _ _, hv34⟩))
        ·
         intro w64 D hS59 hd59
         have d125 : PV RTest M1 x4 (D 3) w64 := dpA hd59 3 Z
         have d126 : PV RTest M1 x5 (D 7) w64 := dpA hd59 7 Z
         generalize hq13 : (D 3) = v35 at d125
         generalize hq14 : (D 7) = v36 at d126
         refine dg_sub (E' := [(43, v35), (47, v36)]) ⟨(congrArg some hq13), (congrArg some hq14), trivial⟩ ?_
         obtain rfl := open_Test d125
         obtain rfl := open_Test d126
         refine dg_plain Z (ow_neqS Z Z Z (Tryd.eqGuardType31) (eqS31 (x := x4) (y := x5) _) fun bb13 hbb13 => ?_)
         obtain rfl := hbb13.trans hc5
         exact ⟨BX.refl _ _, Z⟩
        ·
         intro w65 D hS60 hd60
         exact dg_sub (E' := [(48, (.bool false))]) ⟨(dpE hd60 8 Z Z), trivial⟩ (dg_plain Z (ow_move Z Z ⟨BX.refl _ _, Z⟩))
        ·
         intro w66 D hS61 hd61
         exact dg_sub (E' := [(49, (.bool false)), (8, (.int .i64 k1))]) ⟨(dpE hd61 9 Z Z), Z, trivial⟩ (dg_on Z Z Z Z (ow_move Z Z ⟨BX.refl _ _, Z⟩))
        ·
         intro w67 D hS62 hd62
         refine dg_sub (E' := [(50, (.int .i64 k1)), (49, (.bool false))]) ⟨(dpE hd62 10 Z Z), (dpE hd62 9 Z Z), trivial⟩ (dg_on Z Z Z Z (ow_gtr Z Z Z fun bb14 hbb14 => ?_))
         obtain rfl := hbb14.trans hc6
         exact ⟨BX.refl _ _, Z⟩
        ·
         intro w68 D hS63 hd63
         exact dg_sub (E' := [(51, (.bool false)), (49, (.bool false))]) ⟨(dpE hd63 11 Z Z), (dpE hd63 9 Z Z), trivial⟩ (dg_on Z Z Z Z (ow_move Z Z ⟨BX.refl _ _, Z⟩))
        ·
         intro w69 D hS64 hd64
         exact dg_sub (E' := [(52, (.bool false)), (4, v4)]) ⟨(dpE hd64 12 Z Z), Z, trivial⟩ (dg_off Z Z Z Z ⟨BX.refl _ _, Z⟩)
        ·
         intro w70 D hS65 hd65
         exact dg_sub (E' := [(52, (.bool false)), (8, (.int .i64 k1))]) ⟨(dpE hd65 12 Z Z), Z, trivial⟩ (dg_off Z Z Z Z ⟨BX.refl _ _, Z⟩)
        ·
         intro w71 D hS66 hd66
         exact dg_sub (E' := [(54, undef), (52, (.bool false))]) ⟨(dpE hd66 14 Z Z), (dpE hd66 12 Z Z), trivial⟩ (dg_off Z Z Z Z ⟨BX.refl _ _, Z⟩)
        ·
         intro w72 D hS67 hd67
         exact dg_sub (E' := [(53, undef), (55, undef), (52, (.bool false))]) ⟨(dpE hd67 13 Z Z), (dpE hd67 15 Z Z), (dpE hd67 12 Z Z), trivial⟩ (dg_off Z Z Z Z ⟨BX.refl _ _, Z⟩)
        ·
         intro w73 D hS68 hd68
         exact dg_sub (E' := [(56, undef), (52, (.bool false))]) ⟨(dpE hd68 16 Z Z), (dpE hd68 12 Z Z), trivial⟩ (dg_off Z Z Z Z ⟨BX.refl _ _, Z⟩)
        ·
         intro w74 D hS69 hd69
         exact dg_sub (E' := [(57, undef), (52, (.bool false))]) ⟨(dpE hd69 17 Z Z), (dpE hd69 12 Z Z), trivial⟩ (dg_off Z Z Z Z ⟨BX.refl _ _, Z⟩)
        ·
         intro w75 D hS70 hd70
         exact dg_sub (E' := [(52, (.bool false)), (4, v4)]) ⟨(dpE hd70 12 Z Z), Z, trivial⟩ (dg_off Z Z Z Z ⟨BX.refl _ _, Z⟩)
        ·
         intro w76 D hS71 hd71
         exact dg_sub (E' := [(52, (.bool false)), (8, (.int .i64 k1))]) ⟨(dpE hd71 12 Z Z), Z, trivial⟩ (dg_off Z Z Z Z ⟨BX.refl _ _, Z⟩)
        ·
         intro w77 D hS72 hd72
         exact dg_sub (E' := [(59, undef), (60, undef), (52, (.bool false))]) ⟨(dpE hd72 19 Z Z), (dpE hd72 20 Z Z), (dpE hd72 12 Z Z), trivial⟩ (dg_off Z Z Z Z ⟨BX.refl _ _, Z⟩)
        ·
         intro w78 D hS73 hd73
         exact dg_sub (E' := [(61, undef), (52, (.bool false))]) ⟨(dpE hd73 21 Z Z), (dpE hd73 12 Z Z), trivial⟩ (dg_off Z Z Z Z ⟨BX.refl _ _, Z⟩)
        ·
         intro w79 D hS74 hd74
         exact dg_sub (E' := [(62, undef), (52, (.bool false))]) ⟨(dpE hd74 22 Z Z), (dpE hd74 12 Z Z), trivial⟩ (dg_off Z Z Z Z ⟨BX.refl _ _, Z⟩)
        ·
         intro w80 D hS75 hd75
         have hl80 := Le.no M1 hS75
         have hC80 := hC5.no hS75
         exact lw_sub (E' := [(49, (.bool false)), (52, (.bool false)), (58, undef), (63, undef), (3, (.pointer (some p1))), (4, v4), (5, (.bool bb2)), (6, v8), (8, (.int .i64 k1))]) ⟨(dpE hd75 9 Z Z), (dpE hd75 12 Z Z), (dpE hd75 18 Z Z), (dpE hd75 23 Z Z), Z, Z, Z, Z, Z, trivial⟩ (lw_off Z Z Z Z Z Z (lw_on Z Z Z Z Z Z (ow_pickF Z Z Z (lw_op Z Z Z (ow_pickF Z Z Z (lw_nil (ew_then (cw_false Z (cw_skip (ew_blockN (ew_then (cw_region (lw_op Z Z Z (ow_move Z Z (lw_op Z Z Z (ow_add Z Z Z (lw_op Z Z Z (ow_assign Z Z (lw_nil (ew_nxt (W (k1 + 1)) hb5 fun a ha => ⟨M1, (ha.sub ⟨Z, Z, Z, Z, Z, trivial⟩), (hl5.trans hl80), hC80⟩))))))))))))))))))))
     ·
      obtain rfl := hbb6.trans hc4
      exact cw_false Z (cw_exit (ew_thenX (ew_thenX (ew_blockX (ew_brk k1 hb5 fun a ha => ⟨M1, (ha.sub ⟨Z, Z, Z, Z, Z, trivial⟩), hl5, hC5⟩)))))
    ·
     rintro k2 a w81 hlr2 ⟨M2, hF2, hl81, hC81⟩
     subst hlr2
     refine ew_at (E := [(3, (.pointer (some p1))), (4, v4), (5, (.bool bb2)), (6, v8), (8, (.int .i64 k2))]) hF2 (ew_then (cw_seq ?_))
     replace h := cond_some h
     rcases h with ⟨hc8, h⟩ | ⟨hc8, h⟩
     ·
      replace h := bind_some h
      obtain ⟨x7, hx7, h⟩ := h
      have lz11 := ((lz1.trans hl4).trans hl81)
      have lz12 := ((hl3.trans hl4).trans hl81)
      have lz13 := (hl4.trans hl81)
      obtain rfl := hbb2.trans hc8
      refine cw_sub (E' := [(3, (.pointer (some p1))), (4, v4), (5, (.bool true))]) ⟨Z, Z, Z, trivial⟩ (cw_drawQ 16 [PEq (.bool true), PEq (.bool false), PEq (.bool false), PEq undef, PEq undef, PEq undef, PEq (.bool false), PEq (.bool false), PEq undef, PEq (.bool false), PEq (.bool false), PEq (.bool true), PEq (.bool true), PV (RSlice RTest) M2 x2.1, PV RBox M2 x7, PV RBox M2 x1] (by kernel_rfl) Z (by kernel_rfl) ⟨PEq.mono _, PEq.mono _, PEq.mono _, PEq.mono _, PEq.mono _, PEq.mono _, PEq.mono _, PEq.mono _, PEq.mono _, PEq.mono _, PEq.mono _, PEq.mono _, PEq.mono _, PV.mono _ _ _, PV.mono _ _ _, PV.mono _ _ _, trivial⟩ ⟨?_, ?_, ?_, ?_, ?_, ?_, ?_, ?_, ?_, ?_, ?_, ?_, ?_, ?_, ?_, ?_, trivial⟩ ?_)
      ·
       intro w83 D hS76 hd76
       exact dg_sub (E' := [(5, (.bool true))]) ⟨Z, trivial⟩ (dg_plain Z (ow_move Z Z ⟨BX.refl _ _, Z⟩))
      ·
       intro w84 D hS77 hd77
       exact dg_sub (E' := [(67, (.bool true))]) ⟨(dpE hd77 0 Z Z), trivial⟩ (dg_plain Z (ow_not Z Z ⟨BX.refl _ _, Z⟩))
      ·
       intro w85 D hS78 hd78
       exact dg_sub (E' := [(68, (.bool false))]) ⟨(dpE hd78 1 Z Z), trivial⟩ (dg_plain Z (ow_move Z Z ⟨BX.refl _ _, Z⟩))
      ·
       intro w86 D hS79 hd79
       exact dg_sub (E' := [(69, (.bool false)), (4, v4)]) ⟨(dpE hd79 2 Z Z), Z, trivial⟩ (dg_off Z Z Z Z ⟨BX.refl _ _, Z⟩)
      ·
       intro w87 D hS80 hd80
       exact dg_sub (E' := [(70, undef), (69, (.bool false))]) ⟨(dpE hd80 3 Z Z), (dpE hd80 2 Z Z), trivial⟩ (dg_off Z Z Z Z ⟨BX.refl _ _, Z⟩)
      ·
       intro w88 D hS81 hd81
       exact dg_sub (E' := [(71, undef), (69, (.bool false))]) ⟨(dpE hd81 4 Z Z), (dpE hd81 2 Z Z), trivial⟩ (dg_off Z Z Z Z ⟨BX.refl _ _, Z⟩)
      ·
       intro w89 D hS82 hd82
       exact dg_sub (E' := [(69, (.bool false)), (72, undef)]) ⟨(dpE hd82 2 Z Z), (dpE hd82 5 Z Z), trivial⟩ (dg_plain Z (ow_pickF Z Z Z ⟨BX.refl _ _, Z⟩))
      ·
       intro w90 D hS83 hd83
       exact dg_sub (E' := [(73, (.bool false))]) ⟨(dpE hd83 6 Z Z), trivial⟩ (dg_plain Z (ow_move Z Z ⟨BX.refl _ _, Z⟩))
      ·
       intro w91 D hS84 hd84
       exact dg_sub (E' := [(74, (.bool false))]) ⟨(dpE hd84 7 Z Z), trivial⟩ (dg_off Z Z Z Z ⟨BX.refl _ _, Z⟩)
      ·
       intro w92 D hS85 hd85
       exact dg_sub (E' := [(74, (.bool false)), (75, undef)]) ⟨(dpE hd85 7 Z Z), (dpE hd85 8 Z Z), trivial⟩ (dg_plain Z (ow_pickF Z Z Z ⟨BX.refl _ _, Z⟩))
      ·
       intro w93 D hS86 hd86
       exact dg_sub (E' := [(76, (.bool false))]) ⟨(dpE hd86 9 Z Z), trivial⟩ (dg_plain Z (ow_move Z Z ⟨BX.refl _ _, Z⟩))
      ·
       intro w94 D hS87 hd87
       exact dg_sub (E' := [(77, (.bool false)), (5, (.bool true))]) ⟨(dpE hd87 10 Z Z), Z, trivial⟩ (dg_on Z Z Z Z (ow_move Z Z ⟨BX.refl _ _, Z⟩))
      ·
       intro w95 D hS88 hd88
       exact dg_sub (E' := [(78, (.bool true)), (77, (.bool false))]) ⟨(dpE hd88 11 Z Z), (dpE hd88 10 Z Z), trivial⟩ (dg_on Z Z Z Z (ow_move Z Z ⟨BX.refl _ _, Z⟩))
      ·
       intro w96 D hS89 hd89
       have hl96 := Le.no M2 hS89
       exact dg_sub (E' := [(79, (.bool true)), (4, v4)]) ⟨(dpE hd89 12 Z Z), Z, trivial⟩ (dg_on Z Z Z Z (ow_move Z Z ⟨BX.refl _ _, (VRep.mono (lz13.trans hl96) hv4)⟩))
      ·
       intro w97 D hS90 hd90
       have hl97 := Le.no M2 hS90
       have hC97 := hC81.no hS90
       have d200 : PV (RSlice RTest) M2 x2.1 (D 13) w97 := dpA hd90 13 Z
       generalize hq15 : (D 13) = v40 at d200
       refine dg_sub (E' := [(80, v40), (79, (.bool true))]) ⟨(congrArg some hq15), (dpE hd90 12 Z Z), trivial⟩ (dg_on Z Z Z Z (ow_call Z Z Tryd.call20 (w_impl_TestsBox (hG.mono (lz11.trans hl97)) hC97.old d200 hx7) fun v41 w98 hv41 => ?_))
       obtain ⟨hv41, hb7⟩ := hv41
       exact ⟨hb7, hv41⟩
      ·
       intro w99 D hS91 hd91
       have hl99 := Le.no M2 hS91
       exact dg_sub (E' := [(79, (.bool true)), (3, (.pointer (some p1)))]) ⟨(dpE hd91 12 Z Z), Z, trivial⟩ (dg_on Z Z Z Z (ow_load (R := RBox) Z Z (ARep.mono (lz12.trans hl99) hp1) (Tryd.sizeOf25 _) (Tryd.isAgg25 _) fun v42 hv42 => ⟨BX.refl _ _, hv42⟩))
      ·
       intro w100 D hS92 hd92
       have d218 : PV RBox M2 x7 (D 14) w100 := dpA hd92 14 Z
       have d219 : PV RBox M2 x1 (D 15) w100 := dpA hd92 15 Z
       have hl100 := Le.no M2 hS92
       have hC100 := hC81.no hS92
       generalize hq16 : (D 14) = v43 at d218
       generalize hq17 : (D 15) = v44 at d219
       refine lw_sub (E' := [(77, (.bool false)), (79, (.bool true)), (81, v43), (82, v44), (3, (.pointer (some p1))), (4, v4), (5, (.bool true))]) ⟨(dpE hd92 10 Z Z), (dpE hd92 12 Z Z), (congrArg some hq16), (congrArg some hq17), Z, Z, Z, trivial⟩ ?_
       replace h := bind_some h
       obtain ⟨x8, hx8, h⟩ := h
       refine lw_on Z Z Z Z Z Z (ow_call Z Z Tryd.call19 (w_laws_sameBox (hG.mono (lz11.trans hl100)) hC100.old d218 d219 hx8) fun v45 w101 hv45 => ?_)
       obtain ⟨hv45, hb8⟩ := hv45
       have hC101 := hC100.no hb8
       obtain rfl := vbool_eq hv45
       refine lw_on Z Z Z Z Z Z (ow_pickT Z Z Z (lw_op Z Z Z (ow_pickF Z Z Z (lw_op Z Z Z (ow_assign Z Z (lw_nil (ew_then (cw_ret ?_))))))))
       obtain rfl := Option.some.inj h
       exact ew_ret (res1 Z (.tmp Z)) ⟨_, Z, ((vbool _)), hC101.bx⟩
     ·
      replace h := cond_some h
      rcases h with ⟨hc9, h⟩ | ⟨hc9, h⟩
      ·
       replace h := bind_some h
       obtain ⟨x9, hx9, h⟩ := h
       replace h := cond_some h
       rcases h with ⟨hc10, h⟩ | ⟨hc10, h⟩
       ·
        subst hc10
        have lz14 := ((lz1.trans hl4).trans hl81)
        have lz16 := (hl4.trans hl81)
        obtain rfl := hbb2.trans hc8
        refine cw_sub (E' := [(3, (.pointer (some p1))), (4, v4), (5, (.bool false))]) ⟨Z, Z, Z, trivial⟩ (cw_drawQ 16 [PEq (.bool false), PEq (.bool true), PEq (.bool true), PV (RSlice RTest) M2 x2.1, PEq (.int .i64 (x2.1.length : Int)), PEq (.bool true), PEq (.bool true), PEq (.bool true), PEq (.bool true), PEq (.bool true), PEq (.bool true), PEq undef, PEq undef, PEq undef, PEq undef, PEq undef] (by kernel_rfl) Z (by kernel_rfl) ⟨PEq.mono _, PEq.mono _, PEq.mono _, PV.mono _ _ _, PEq.mono _, PEq.mono _, PEq.mono _, PEq.mono _, PEq.mono _, PEq.mono _, PEq.mono _, PEq.mono _, PEq.mono _, PEq.mono _, PEq.mono _, PEq.mono _, trivial⟩ ⟨?_, ?_, ?_, ?_, ?_, ?_, ?_, ?_, ?_, ?_, ?_, ?_, ?_, ?_, ?_, ?_, trivial⟩ ?_)
        ·
         intro w103 D hS93 hd93
         exact dg_sub (E' := [(5, (.bool false))]) ⟨Z, trivial⟩ (dg_plain Z (ow_move Z Z ⟨BX.refl _ _, Z⟩))
        ·
         intro w104 D hS94 hd94
         exact dg_sub (E' := [(67, (.bool false))]) ⟨(dpE hd94 0 Z Z), trivial⟩ (dg_plain Z (ow_not Z Z ⟨BX.refl _ _, Z⟩))
        ·
         intro w105 D hS95 hd95
         exact dg_sub (E' := [(68, (.bool true))]) ⟨(dpE hd95 1 Z Z), trivial⟩ (dg_plain Z (ow_move Z Z ⟨BX.refl _ _, Z⟩))
        ·
         intro w106 D hS96 hd96
         have hl106 := Le.no M2 hS96
         exact dg_sub (E' := [(69, (.bool true)), (4, v4)]) ⟨(dpE hd96 2 Z Z), Z, trivial⟩ (dg_on Z Z Z Z (ow_move Z Z ⟨BX.refl _ _, (VRep.mono (lz16.trans hl106) hv4)⟩))
        ·
         intro w107 D hS97 hd97
         have d223 : PV (RSlice RTest) M2 x2.1 (D 3) w107 := dpA hd97 3 Z
         generalize hq18 : (D 3) = v47 at d223
         exact dg_sub (E' := [(70, v47), (69, (.bool true))]) ⟨(congrArg some hq18), (dpE hd97 2 Z Z), trivial⟩ (dg_on Z Z Z Z (ow_len Z Z d223 Tryd.underlying27 Z ⟨BX.refl _ _, Z⟩))
        ·
         intro w108 D hS98 hd98
         refine dg_sub (E' := [(71, (.int .i64 (x2.1.length : Int))), (69, (.bool true))]) ⟨(dpE hd98 4 Z Z), (dpE hd98 2 Z Z), trivial⟩ (dg_on Z Z Z Z (ow_eqlI Z Z Z fun bb16 hbb16 => ?_))
         obtain rfl := hbb16.trans hc9
         exact ⟨BX.refl _ _, Z⟩
        ·
         intro w109 D hS99 hd99
         exact dg_sub (E' := [(69, (.bool true)), (72, (.bool true))]) ⟨(dpE hd99 2 Z Z), (dpE hd99 5 Z Z), trivial⟩ (dg_plain Z (ow_pickT Z Z Z ⟨BX.refl _ _, Z⟩))
        ·
         intro w110 D hS100 hd100
         exact dg_sub (E' := [(73, (.bool true))]) ⟨(dpE hd100 6 Z Z), trivial⟩ (dg_plain Z (ow_move Z Z ⟨BX.refl _ _, Z⟩))
        ·
         intro w111 D hS101 hd101
         have hl111 := Le.no M2 hS101
         have hC111 := hC81.no hS101
         refine dg_sub (E' := [(74, (.bool true))]) ⟨(dpE hd101 7 Z Z), trivial⟩ (dg_on Z Z Z Z (ow_call Z Z Tryd.call18 (w_laws_alive (hG.mono (lz14.trans hl111)) hC111.old hx9) fun v48 w112 hv48 => ?_))
         obtain ⟨hv48, hb10⟩ := hv48
         obtain rfl := vbool_eq hv48
         exact ⟨hb10, Z⟩
        ·
         intro w113 D hS102 hd102
         exact dg_sub (E' := [(74, (.bool true)), (75, (.bool true))]) ⟨(dpE hd102 7 Z Z), (dpE hd102 8 Z Z), trivial⟩ (dg_plain Z (ow_pickT Z Z Z ⟨BX.refl _ _, Z⟩))
        ·
         intro w114 D hS103 hd103
         exact dg_sub (E' := [(76, (.bool true))]) ⟨(dpE hd103 9 Z Z), trivial⟩ (dg_plain Z (ow_move Z Z ⟨BX.refl _ _, Z⟩))
        ·
         intro w115 D hS104 hd104
         exact dg_sub (E' := [(77, (.bool true)), (5, (.bool false))]) ⟨(dpE hd104 10 Z Z), Z, trivial⟩ (dg_off Z Z Z Z ⟨BX.refl _ _, Z⟩)
        ·
         intro w116 D hS105 hd105
         exact dg_sub (E' := [(78, undef), (77, (.bool true))]) ⟨(dpE hd105 11 Z Z), (dpE hd105 10 Z Z), trivial⟩ (dg_off Z Z Z Z ⟨BX.refl _ _, Z⟩)
        ·
         intro w117 D hS106 hd106
         exact dg_sub (E' := [(79, undef), (4, v4)]) ⟨(dpE hd106 12 Z Z), Z, trivial⟩ (dg_off' Z Z Z Z ⟨BX.refl _ _, Z⟩)
        ·
         intro w118 D hS107 hd107
         exact dg_sub (E' := [(80, undef), (79, undef)]) ⟨(dpE hd107 13 Z Z), (dpE hd107 12 Z Z), trivial⟩ (dg_off' Z Z Z Z ⟨BX.refl _ _, Z⟩)
        ·
         intro w119 D hS108 hd108
         exact dg_sub (E' := [(79, undef), (3, (.pointer (some p1)))]) ⟨(dpE hd108 12 Z Z), Z, trivial⟩ (dg_off' Z Z Z Z ⟨BX.refl _ _, Z⟩)
        ·
         intro w120 D hS109 hd109
         have hC120 := hC81.no hS109
         refine lw_sub (E' := [(77, (.bool true)), (79, undef), (81, undef), (82, undef), (3, (.pointer (some p1))), (4, v4), (5, (.bool false))]) ⟨(dpE hd109 10 Z Z), (dpE hd109 12 Z Z), (dpE hd109 14 Z Z), (dpE hd109 15 Z Z), Z, Z, Z, trivial⟩ (lw_off' Z Z Z Z Z Z (lw_off Z Z Z Z Z Z (lw_op Z Z Z (ow_pickT Z Z Z (lw_op Z Z Z (ow_assign Z Z (lw_nil (ew_then (cw_ret ?_)))))))))
         obtain rfl := Option.some.inj h
         exact ew_ret (res1 Z (.tmp Z)) ⟨_, Z, ((vbool _)), hC120.bx⟩
       ·
        subst hc10
        have lz17 := ((lz1.trans hl4).trans hl81)
        have lz19 := (hl4.trans hl81)
        obtain rfl := hbb2.trans hc8
        refine cw_sub (E' := [(3, (.pointer (some p1))), (4, v4), (5, (.bool false))]) ⟨Z, Z, Z, trivial⟩ (cw_drawQ 16 [PEq (.bool false), PEq (.bool true), PEq (.bool true), PV (RSlice RTest) M2 x2.1, PEq (.int .i64 (x2.1.length : Int)), PEq (.bool true), PEq (.bool true), PEq (.bool true), PEq (.bool false), PEq (.bool false), PEq (.bool false), PEq (.bool false), PEq (.bool false), PEq undef, PEq undef, PEq undef] (by kernel_rfl) Z (by kernel_rfl) ⟨PEq.mono _, PEq.mono _, PEq.mono _, PV.mono _ _ _, PEq.mono _, PEq.mono _, PEq.mono _, PEq.mono _, PEq.mono _, PEq.mono _, PEq.mono _, PEq.mono _, PEq.mono _, PEq.mono _, PEq.mono _, PEq.mono _, trivial⟩ ⟨?_, ?_, ?_, ?_, ?_, ?_, ?_, ?_, ?_, ?_, ?_, ?_, ?_, ?_, ?_, ?_, trivial⟩ ?_)
        ·
         intro w121 D hS110 hd110
         exact dg_sub (E' := [(5, (.bool false))]) ⟨Z, trivial⟩ (dg_plain Z (ow_move Z Z ⟨BX.refl _ _, Z⟩))
        ·
         intro w122 D hS111 hd111
         exact dg_sub (E' := [(67, (.bool false))]) ⟨(dpE hd111 0 Z Z), trivial⟩ (dg_plain Z (ow_not Z Z ⟨BX.refl _ _, Z⟩))
        ·
         intro w123 D hS112 hd112
         exact dg_sub (E' := [(68, (.bool true))]) ⟨(dpE hd112 1 Z Z), trivial⟩ (dg_plain Z (ow_move Z Z ⟨BX.refl _ _, Z⟩))
        ·
         intro w124 D hS113 hd113
         have hl124 := Le.no M2 hS113
         exact dg_sub (E' := [(69, (.bool true)), (4, v4)]) ⟨(dpE hd113 2 Z Z), Z, trivial⟩ (dg_on Z Z Z Z (ow_move Z Z ⟨BX.refl _ _, (VRep.mono (lz19.trans hl124) hv4)⟩))
        ·
         intro w125 D hS114 hd114
         have d265 : PV (RSlice RTest) M2 x2.1 (D 3) w125 := dpA hd114 3 Z
         generalize hq19 : (D 3) = v49 at d265
         exact dg_sub (E' := [(70, v49), (69, (.bool true))]) ⟨(congrArg some hq19), (dpE hd114 2 Z Z), trivial⟩ (dg_on Z Z Z Z (ow_len Z Z d265 Tryd.underlying27 Z ⟨BX.refl _ _, Z⟩))
        ·
         intro w126 D hS115 hd115
         refine dg_sub (E' := [(71, (.int .i64 (x2.1.length : Int))), (69, (.bool true))]) ⟨(dpE hd115 4 Z Z), (dpE hd115 2 Z Z), trivial⟩ (dg_on Z Z Z Z (ow_eqlI Z Z Z fun bb17 hbb17 => ?_))
         obtain rfl := hbb17.trans hc9
         exact ⟨BX.refl _ _, Z⟩
        ·
         intro w127 D hS116 hd116
         exact dg_sub (E' := [(69, (.bool true)), (72, (.bool true))]) ⟨(dpE hd116 2 Z Z), (dpE hd116 5 Z Z), trivial⟩ (dg_plain Z (ow_pickT Z Z Z ⟨BX.refl _ _, Z⟩))
        ·
         intro w128 D hS117 hd117
         exact dg_sub (E' := [(73, (.bool true))]) ⟨(dpE hd117 6 Z Z), trivial⟩ (dg_plain Z (ow_move Z Z ⟨BX.refl _ _, Z⟩))
        ·
         intro w129 D hS118 hd118
         have hl129 := Le.no M2 hS118
         have hC129 := hC81.no hS118
         refine dg_sub (E' := [(74, (.bool true))]) ⟨(dpE hd118 7 Z Z), trivial⟩ (dg_on Z Z Z Z (ow_call Z Z Tryd.call18 (w_laws_alive (hG.mono (lz17.trans hl129)) hC129.old hx9) fun v50 w130 hv50 => ?_))
         obtain ⟨hv50, hb11⟩ := hv50
         obtain rfl := vbool_eq hv50
         exact ⟨hb11, Z⟩
        ·
         intro w131 D hS119 hd119
         exact dg_sub (E' := [(74, (.bool true)), (75, (.bool false))]) ⟨(dpE hd119 7 Z Z), (dpE hd119 8 Z Z), trivial⟩ (dg_plain Z (ow_pickT Z Z Z ⟨BX.refl _ _, Z⟩))
        ·
         intro w132 D hS120 hd120
         exact dg_sub (E' := [(76, (.bool false))]) ⟨(dpE hd120 9 Z Z), trivial⟩ (dg_plain Z (ow_move Z Z ⟨BX.refl _ _, Z⟩))
        ·
         intro w133 D hS121 hd121
         exact dg_sub (E' := [(77, (.bool false)), (5, (.bool false))]) ⟨(dpE hd121 10 Z Z), Z, trivial⟩ (dg_on Z Z Z Z (ow_move Z Z ⟨BX.refl _ _, Z⟩))
        ·
         intro w134 D hS122 hd122
         exact dg_sub (E' := [(78, (.bool false)), (77, (.bool false))]) ⟨(dpE hd122 11 Z Z), (dpE hd122 10 Z Z), trivial⟩ (dg_on Z Z Z Z (ow_move Z Z ⟨BX.refl _ _, Z⟩))
        ·
         intro w135 D hS123 hd123
         exact dg_sub (E' := [(79, (.bool false)), (4, v4)]) ⟨(dpE hd123 12 Z Z), Z, trivial⟩ (dg_off Z Z Z Z ⟨BX.refl _ _, Z⟩)
        ·
         intro w136 D hS124 hd124
         exact dg_sub (E' := [(80, undef), (79, (.bool false))]) ⟨(dpE hd124 13 Z Z), (dpE hd124 12 Z Z), trivial⟩ (dg_off Z Z Z Z ⟨BX.refl _ _, Z⟩)
        ·
         intro w137 D hS125 hd125
         exact dg_sub (E' := [(79, (.bool false)), (3, (.pointer (some p1)))]) ⟨(dpE hd125 12 Z Z), Z, trivial⟩ (dg_off Z Z Z Z ⟨BX.refl _ _, Z⟩)
        ·
         intro w138 D hS126 hd126
         have hC138 := hC81.no hS126
         refine lw_sub (E' := [(77, (.bool false)), (79, (.bool false)), (81, undef), (82, undef), (3, (.pointer (some p1))), (4, v4), (5, (.bool false))]) ⟨(dpE hd126 10 Z Z), (dpE hd126 12 Z Z), (dpE hd126 14 Z Z), (dpE hd126 15 Z Z), Z, Z, Z, trivial⟩ (lw_off Z Z Z Z Z Z (lw_on Z Z Z Z Z Z (ow_pickF Z Z Z (lw_op Z Z Z (ow_pickF Z Z Z (lw_op Z Z Z (ow_assign Z Z (lw_nil (ew_then (cw_ret ?_))))))))))
         obtain rfl := Option.some.inj h
         exact ew_ret (res1 Z (.tmp Z)) ⟨_, Z, ((vbool _)), hC138.bx⟩
      ·
       have lz22 := (hl4.trans hl81)
       obtain rfl := hbb2.trans hc8
       refine cw_sub (E' := [(3, (.pointer (some p1))), (4, v4), (5, (.bool false))]) ⟨Z, Z, Z, trivial⟩ (cw_drawQ 16 [PEq (.bool false), PEq (.bool true), PEq (.bool true), PV (RSlice RTest) M2 x2.1, PEq (.int .i64 (x2.1.length : Int)), PEq (.bool false), PEq (.bool false), PEq (.bool false), PEq undef, PEq (.bool false), PEq (.bool false), PEq (.bool false), PEq (.bool false), PEq undef, PEq undef, PEq undef] (by kernel_rfl) Z (by kernel_rfl) ⟨PEq.mono _, PEq.mono _, PEq.mono _, PV.mono _ _ _, PEq.mono _, PEq.mono _, PEq.mono _, PEq.mono _, PEq.mono _, PEq.mono _, PEq.mono _, PEq.mono _, PEq.mono _, PEq.mono _, PEq.mono _, PEq.mono _, trivial⟩ ⟨?_, ?_, ?_, ?_, ?_, ?_, ?_, ?_, ?_, ?_, ?_, ?_, ?_, ?_, ?_, ?_, trivial⟩ ?_)
       ·
        intro w139 D hS127 hd127
        exact dg_sub (E' := [(5, (.bool false))]) ⟨Z, trivial⟩ (dg_plain Z (ow_move Z Z ⟨BX.refl _ _, Z⟩))
       ·
        intro w140 D hS128 hd128
        exact dg_sub (E' := [(67, (.bool false))]) ⟨(dpE hd128 0 Z Z), trivial⟩ (dg_plain Z (ow_not Z Z ⟨BX.refl _ _, Z⟩))
       ·
        intro w141 D hS129 hd129
        exact dg_sub (E' := [(68, (.bool true))]) ⟨(dpE hd129 1 Z Z), trivial⟩ (dg_plain Z (ow_move Z Z ⟨BX.refl _ _, Z⟩))
       ·
        intro w142 D hS130 hd130
        have hl142 := Le.no M2 hS130
        exact dg_sub (E' := [(69, (.bool true)), (4, v4)]) ⟨(dpE hd130 2 Z Z), Z, trivial⟩ (dg_on Z Z Z Z (ow_move Z Z ⟨BX.refl _ _, (VRep.mono (lz22.trans hl142) hv4)⟩))
       ·
        intro w143 D hS131 hd131
        have d307 : PV (RSlice RTest) M2 x2.1 (D 3) w143 := dpA hd131 3 Z
        generalize hq20 : (D 3) = v51 at d307
        exact dg_sub (E' := [(70, v51), (69, (.bool true))]) ⟨(congrArg some hq20), (dpE hd131 2 Z Z), trivial⟩ (dg_on Z Z Z Z (ow_len Z Z d307 Tryd.underlying27 Z ⟨BX.refl _ _, Z⟩))
       ·
        intro w144 D hS132 hd132
        refine dg_sub (E' := [(71, (.int .i64 (x2.1.length : Int))), (69, (.bool true))]) ⟨(dpE hd132 4 Z Z), (dpE hd132 2 Z Z), trivial⟩ (dg_on Z Z Z Z (ow_eqlI Z Z Z fun bb18 hbb18 => ?_))
        obtain rfl := hbb18.trans hc9
        exact ⟨BX.refl _ _, Z⟩
       ·
        intro w145 D hS133 hd133
        exact dg_sub (E' := [(69, (.bool true)), (72, (.bool false))]) ⟨(dpE hd133 2 Z Z), (dpE hd133 5 Z Z), trivial⟩ (dg_plain Z (ow_pickT Z Z Z ⟨BX.refl _ _, Z⟩))
       ·
        intro w146 D hS134 hd134
        exact dg_sub (E' := [(73, (.bool false))]) ⟨(dpE hd134 6 Z Z), trivial⟩ (dg_plain Z (ow_move Z Z ⟨BX.refl _ _, Z⟩))
       ·
        intro w147 D hS135 hd135
        exact dg_sub (E' := [(74, (.bool false))]) ⟨(dpE hd135 7 Z Z), trivial⟩ (dg_off Z Z Z Z ⟨BX.refl _ _, Z⟩)
       ·
        intro w148 D hS136 hd136
        exact dg_sub (E' := [(74, (.bool false)), (75, undef)]) ⟨(dpE hd136 7 Z Z), (dpE hd136 8 Z Z), trivial⟩ (dg_plain Z (ow_pickF Z Z Z ⟨BX.refl _ _, Z⟩))
       ·
        intro w149 D hS137 hd137
        exact dg_sub (E' := [(76, (.bool false))]) ⟨(dpE hd137 9 Z Z), trivial⟩ (dg_plain Z (ow_move Z Z ⟨BX.refl _ _, Z⟩))
       ·
        intro w150 D hS138 hd138
        exact dg_sub (E' := [(77, (.bool false)), (5, (.bool false))]) ⟨(dpE hd138 10 Z Z), Z, trivial⟩ (dg_on Z Z Z Z (ow_move Z Z ⟨BX.refl _ _, Z⟩))
       ·
        intro w151 D hS139 hd139
        exact dg_sub (E' := [(78, (.bool false)), (77, (.bool false))]) ⟨(dpE hd139 11 Z Z), (dpE hd139 10 Z Z), trivial⟩ (dg_on Z Z Z Z (ow_move Z Z ⟨BX.refl _ _, Z⟩))
       ·
        intro w152 D hS140 hd140
        exact dg_sub (E' := [(79, (.bool false)), (4, v4)]) ⟨(dpE hd140 12 Z Z), Z, trivial⟩ (dg_off Z Z Z Z ⟨BX.refl _ _, Z⟩)
       ·
        intro w153 D hS141 hd141
        exact dg_sub (E' := [(80, undef), (79, (.bool false))]) ⟨(dpE hd141 13 Z Z), (dpE hd141 12 Z Z), trivial⟩ (dg_off Z Z Z Z ⟨BX.refl _ _, Z⟩)
       ·
        intro w154 D hS142 hd142
        exact dg_sub (E' := [(79, (.bool false)), (3, (.pointer (some p1)))]) ⟨(dpE hd142 12 Z Z), Z, trivial⟩ (dg_off Z Z Z Z ⟨BX.refl _ _, Z⟩)
       ·
        intro w155 D hS143 hd143
        have hC155 := hC81.no hS143
        refine lw_sub (E' := [(77, (.bool false)), (79, (.bool false)), (81, undef), (82, undef), (3, (.pointer (some p1))), (4, v4), (5, (.bool false))]) ⟨(dpE hd143 10 Z Z), (dpE hd143 12 Z Z), (dpE hd143 14 Z Z), (dpE hd143 15 Z Z), Z, Z, Z, trivial⟩ (lw_off Z Z Z Z Z Z (lw_on Z Z Z Z Z Z (ow_pickF Z Z Z (lw_op Z Z Z (ow_pickF Z Z Z (lw_op Z Z Z (ow_assign Z Z (lw_nil (ew_then (cw_ret ?_))))))))))
        obtain rfl := Option.some.inj h
        exact ew_ret (res1 Z (.tmp Z)) ⟨_, Z, ((vbool _)), hC155.bx⟩


end Go.PF
