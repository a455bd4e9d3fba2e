/- The walks; no condition. -/
import Derived.Test.YtbnndochnkkllaaDoorProg
import Derived.Test.YtbnndochnkkllaaDoorWk0
import Derived.Test.YtbnndochnkkllaaDoorPFMark
import Derived.Test.YtbnndochnkkllaaDoorPFWild
import Derived.Test.YtbnndochnkkllaaDoorPFTree
set_option maxRecDepth 100000
set_option maxHeartbeats 4000000
namespace Go.PF
open Go Go.RowKit Go.Proofs

theorem w_impl_testsSides {w : World} {M : Nat → Prop} (hG : ARep (RArr 4 RShape) w M shapes ⟨0, 0, none⟩) (hO : ∀ b, M b → b < w.heap.size) {v0p : Value} {a_list : List Test} (h0 : VRep (RSlice RTest) w M a_list v0p) {r : (List (List Span))} (h : F.impl_testsSides a_list = some r) :
  Calls Tryd.prog 107 [v0p].toArray w fun e w' => ∃ v, e = .returned v ∧ VRep (RArr 4 (RSlice RSpan)) w' M r v ∧ BX No w w' := by
 have hC : Cx No w M w M := Cx.start hO (fun _ e => e.elim)
 refine walk (N := 31) Tryd.func107 Z Tryd.ntmps107 Z (cw_seq (cw_region (lw_op Z Z Z (ow_alloc Z (Tryd.zeroValue131 _) hC fun g1 w1 hg1 hg2 ho1 hb1 hl1 hC1 => ?_))))
 have hm1 : (Add g1 M) g1 := .inl Z
 have ho2 : OwnA (RArr 4 (RSlice RSpan)) w1 (Add g1 M) g1 131 [([] : List Span), ([] : List Span), ([] : List Span), ([] : List Span)] := OwnA.of ho1 ⟨Z, ⟨_, _, Z, (vslice_nil (R := RSpan) (w := w1) (M := (Add g1 M))).cells, _, _, Z, (vslice_nil (R := RSpan) (w := w1) (M := (Add g1 M))).cells, _, _, Z, (vslice_nil (R := RSpan) (w := w1) (M := (Add g1 M))).cells, _, _, Z, (vslice_nil (R := RSpan) (w := w1) (M := (Add g1 M))).cells, Z⟩⟩
 refine lw_nil (ew_then (cw_seq (cw_region ?_)))
 replace h := bind_some h
 obtain ⟨x1, hx1, h⟩ := h
 refine lw_op Z Z Z (ow_call Z Z Tryd.call135 (w_impl_allSides (hG.mono hl1) hC1.old hx1) fun v1 w2 hv1 => ?_)
 obtain ⟨hv1, hb2⟩ := hv1
 have hl2 := Le.no (Add g1 M) hb2
 have hC2 := hC1.no hb2
 have ho3 := ho2.no hb2 hl2
 refine lw_op Z Z Z (ow_alloc Z (Tryd.zeroValue131 _) hC2 fun g2 w3 hg3 hg4 ho4 hb3 hl3 hC3 => ?_)
 have hn1 := Nat.ne_of_lt (Nat.lt_of_lt_of_le ho3.lt hg3)
 have ho5 := ho3.no hb3 hl3
 have hm2 : (Add g2 (Add g1 M)) g1 := .inr hm1
 have hm3 : (Add g2 (Add g1 M)) g2 := .inl Z
 have ho6 : OwnA (RArr 4 (RSlice RSpan)) w3 (Add g2 (Add g1 M)) g2 131 [([] : List Span), ([] : List Span), ([] : List Span), ([] : List Span)] := OwnA.of ho4 ⟨Z, ⟨_, _, Z, (vslice_nil (R := RSpan) (w := w3) (M := (Add g2 (Add g1 M)))).cells, _, _, Z, (vslice_nil (R := RSpan) (w := w3) (M := (Add g2 (Add g1 M)))).cells, _, _, Z, (vslice_nil (R := RSpan) (w := w3) (M := (Add g2 (Add g1 M)))).cells, _, _, Z, (vslice_nil (R := RSpan) (w := w3) (M := (Add g2 (Add g1 M)))).cells, Z⟩⟩
 obtain ⟨cs1, h1, h2⟩ := ho6.own
 refine lw_op0 Z Z (ow_storeA (X := No) (R := (RArr 4 (RSlice RSpan))) Z Z Z Z h1 h2 (Tryd.sizeOf131 _) (VRep.mono hl3 hv1) hm3 (.inl hg4) hC3 fun w4 ho7 hb4 hl4 hC4 => ?_)
 have ho8 := ho5.go hb4 (fun e => hn1 e) hl4
 refine lw_nil (ew_then (cw_seq (cw_seq (cw_region (lw_op Z Z Z (ow_move Z Z ?_))))))
 have lz1 := (((hl1.trans hl2).trans hl3).trans hl4)
 refine lw_op Z Z Z (ow_len Z Z (VRep.mono lz1 h0) Tryd.underlying36 Z (lw_op Z Z Z (ow_move Z Z (lw_nil (ew_then ?_)))))
 replace h := bind_some h
 obtain ⟨lr1, hlr1, h⟩ := h
 refine cw_for hlr1 (fun s a w' => ∃ (M' : Nat → Prop), Fits 31 [(2, (Zw g1 0)), (3, (Zw g2 0)), (7, v0p), (8, (Zv (a_list.length : Int))), (9, (Zv s.1))] a ∧ Le w4 (Add g2 (Add g1 M)) w' M' ∧ Cx No w M w' M' ∧ OwnA (RArr 4 (RSlice RSpan)) w' M' g1 131 [([] : List Span), ([] : List Span), ([] : List Span), ([] : List Span)] ∧ M' g1 ∧ OwnA (RArr 4 (RSlice RSpan)) w' M' g2 131 s.2 ∧ M' g2) ?_ ?_ ?_
 · exact fun a ha => ⟨(Add g2 (Add g1 M)), ha.sub ⟨Z, Z, Z, Z, Z, Zt⟩, Le.refl _ _, hC4, ho8, hm2, ho7, hm3⟩
 ·
  rintro ⟨k1, y1⟩ a w5 sr1 ⟨M1, hF1, hl5, hC5, ho9, hm4, ho10, hm5⟩ hb5 hR1
  refine cw_at (E := [(2, (Zw g1 0)), (3, (Zw g2 0)), (7, v0p), (8, (Zv (a_list.length : Int))), (9, (Zv k1))]) hF1 (cw_seq (cw_region (lw_op Z Z Z (ow_lss Z Z Z fun bb1 hbb1 => lw_nil (ew_then (cw_seq ?_))))))
  replace hb5 := cond_some hb5
  rcases hb5 with ⟨hc1, hb5⟩ | ⟨hc1, hb5⟩
  ·
   obtain rfl := hbb1.trans hc1
   refine cw_true Z (cw_skip (ew_then (cw_seq (cw_block (cw_seq (cw_region ?_))))))
   replace hb5 := bind_some hb5
   obtain ⟨x2, hx2, hb5⟩ := hb5
   refine lw_op Z Z Z (ow_indexSlice (R := RTest) Z Z Z (VRep.mono (lz1.trans hl5) h0) Tryd.underlying36 (Tryd.sizeOf128 _) hx2 fun p1 hp1 => lw_op Z Z Z (ow_load (R := RTest) Z Z hp1 (Tryd.sizeOf128 _) (Tryd.isAgg128 _) fun v4 hv4 => lw_allocStore (R := RTest) Z Z Z Z Z Z Z Tryd.zeroValue128 Tryd.sizeOf128 Z Z Z (by simp) hv4 hC5 fun p2 w6 hp2 hb6 hl6 hC6 => ?_))
   have ho11 := ho9.no hb6 hl6
   have ho12 := ho10.no hb6 hl6
   refine lw_nil (ew_then ?_)
   replace hb5 := bind_some hb5
   obtain ⟨x3, hx3, hb5⟩ := hb5
   replace hb5 := bind_some hb5
   obtain ⟨x4, hx4, hb5⟩ := hb5
   replace hb5 := bind_some hb5
   obtain ⟨x5, hx5, hb5⟩ := hb5
   replace hb5 := bind_some hb5
   obtain ⟨x6, hx6, hb5⟩ := hb5
   have lz2 := ((lz1.trans hl5).trans hl6)
   refine cw_sub (E' := [(2, (Zw g1 0)), (3, (Zw g2 0)), (5, (.pointer (some p2))), (7, v0p), (8, (Zv (a_list.length : Int))), (9, (Zv k1))]) ⟨Z, Z, Z, Z, Z, Z, Zt⟩ (cw_drawL 15 14 12 27 13 [PA RInt M1 x2.Field, PEq (Zv x2.Field), PA RInt M1 x2.Field, PEq (Zv x2.Field), PEq (.pointer (some ⟨g2, (x2.Field : Int).toNat * (RSlice RSpan).size, none⟩)), PV (RSlice RSpan) M1 x3, PV RTest M1 x2, PV (RSlice RSpan) M1 x4, PA RInt M1 x2.Field, PEq (Zv x2.Field), PEq (Zv x5), PT2 (PV (RSlice RSpan) M1 x6.1) (PEq (.bool x6.2)), PT2 (PV (RSlice RSpan) M1 x6.1) (PEq (.bool x6.2)), PV (RSlice RSpan) M1 x6.1, PEq (.bool x6.2)] (by kernel_rfl) Z (by kernel_rfl) Z Z Z Z Z Z Z ⟨PA.mono _ _ _, Zq, PA.mono _ _ _, Zq, Zq, PV.mono _ _ _, PV.mono _ _ _, PV.mono _ _ _, PA.mono _ _ _, Zq, Zq, (PT2.mono (PV.mono _ _ _) (Zq)), (PT2.mono (PV.mono _ _ _) (Zq)), PV.mono _ _ _, Zq, Zt⟩ (fun v w h => by obtain ⟨a, b, rfl, ha, hb⟩ := h; exact ⟨b, hb, fun w' => ow_extract Z Z Z ⟨Z, Z⟩⟩) ⟨?_, ?_, ?_, ?_, ?_, ?_, ?_, ?_, ?_, ?_, ?_, ?_, ?_, ?_, ?_, Zt⟩ ?_)
   ·
    intro w10 D hS1 hd1
    have hl10 := Le.no M1 hS1
    exact dg_sub (E' := [(5, (.pointer (some p2)))]) ⟨Z, Zt⟩ (dg_plain Z (ow_fieldAddr Z Z Tryd.underlying128 Z (Tryd.sizeOf3 _) ⟨BX.refl _ _, ⟨_, Z, (ARep.mono hl10 (hp2.fld fld_Test_Field))⟩⟩))
   ·
    intro w11 D hS2 hd2
    have d1 : PA RInt M1 x2.Field (D 0) w11 := dpA hd2 0 Z
    obtain ⟨p3, e1, ha1⟩ := d1
    refine dg_sub (E' := [(14, (.pointer (some p3)))]) ⟨congrArg some e1, Zt⟩ (dg_plain Z (ow_load (R := RInt) Z Z ha1 (Tryd.sizeOf3 _) (Tryd.isAgg3 _) fun v15 hv15 => ?_))
    obtain rfl := vint_eq hv15
    exact Zb
   ·
    intro w12 D hS3 hd3
    have hl12 := Le.no M1 hS3
    exact dg_sub (E' := [(5, (.pointer (some p2)))]) ⟨Z, Zt⟩ (dg_plain Z (ow_fieldAddr Z Z Tryd.underlying128 Z (Tryd.sizeOf3 _) ⟨BX.refl _ _, ⟨_, Z, (ARep.mono hl12 (hp2.fld fld_Test_Field))⟩⟩))
   ·
    intro w13 D hS4 hd4
    have d2 : PA RInt M1 x2.Field (D 2) w13 := dpA hd4 2 Z
    obtain ⟨p4, e2, ha2⟩ := d2
    refine dg_sub (E' := [(16, (.pointer (some p4)))]) ⟨congrArg some e2, Zt⟩ (dg_plain Z (ow_load (R := RInt) Z Z ha2 (Tryd.sizeOf3 _) (Tryd.isAgg3 _) fun v16 hv16 => ?_))
    obtain rfl := vint_eq hv16
    exact Zb
   ·
    intro w14 D hS5 hd5
    have hl14 := Le.no M1 hS5
    have ho28 := ho12.no hS5 hl14
    exact dg_sub (E' := [(17, (Zv x2.Field)), (3, (Zw g2 0))]) ⟨dpE hd5 3 Z Z, Z, Zt⟩ (dg_plain Z (ow_indexA (R := (RSlice RSpan)) Z Z Z Z ho28 Tryd.underlying131 (Tryd.sizeOf121 _) hx3 Zb))
   ·
    intro w15 D hS6 hd6
    have hl15 := Le.no M1 hS6
    have ho30 := ho12.no hS6 hl15
    exact dg_sub (E' := [(18, (.pointer (some ⟨g2, (x2.Field : Int).toNat * (RSlice RSpan).size, none⟩)))]) ⟨dpE hd6 4 Z Z, Zt⟩ (dg_plain Z (ow_loadElA (R := (RSlice RSpan)) Z Z Z ho30 hx3 (Tryd.sizeOf121 _) (Tryd.isAgg121 _) fun v17 hv17 => ⟨BX.refl _ _, hv17⟩))
   ·
    intro w16 D hS7 hd7
    have hl16 := Le.no M1 hS7
    exact dg_sub (E' := [(5, (.pointer (some p2)))]) ⟨Z, Zt⟩ (dg_plain Z (ow_load (R := RTest) Z Z (ARep.mono hl16 hp2) (Tryd.sizeOf128 _) (Tryd.isAgg128 _) fun v18 hv18 => ⟨BX.refl _ _, hv18⟩))
   ·
    intro w17 D hS8 hd8
    have hl17 := Le.no M1 hS8
    have hC17 := hC6.no hS8
    have d5 : PV RTest M1 x2 (D 6) w17 := dpA hd8 6 Z
    generalize hq1 : (D 6) = v19 at d5
    refine dg_sub (E' := [(20, v19)]) ⟨congrArg some hq1, Zt⟩ (dg_plain Z (ow_call Z Z Tryd.call160 (w_impl_Test_spans (hG.mono (lz2.trans hl17)) hC17.old d5 hx4) fun v20 w18 hv20 => ?_))
    obtain ⟨hv20, hb10⟩ := hv20
    exact ⟨hb10, hv20⟩
   ·
    intro w19 D hS9 hd9
    have hl19 := Le.no M1 hS9
    exact dg_sub (E' := [(5, (.pointer (some p2)))]) ⟨Z, Zt⟩ (dg_plain Z (ow_fieldAddr Z Z Tryd.underlying128 Z (Tryd.sizeOf3 _) ⟨BX.refl _ _, ⟨_, Z, (ARep.mono hl19 (hp2.fld fld_Test_Field))⟩⟩))
   ·
    intro w20 D hS10 hd10
    have d6 : PA RInt M1 x2.Field (D 8) w20 := dpA hd10 8 Z
    obtain ⟨p5, e3, ha3⟩ := d6
    refine dg_sub (E' := [(22, (.pointer (some p5)))]) ⟨congrArg some e3, Zt⟩ (dg_plain Z (ow_load (R := RInt) Z Z ha3 (Tryd.sizeOf3 _) (Tryd.isAgg3 _) fun v21 hv21 => ?_))
    obtain rfl := vint_eq hv21
    exact Zb
   ·
    intro w21 D hS11 hd11
    have hl21 := Le.no M1 hS11
    have hC21 := hC6.no hS11
    refine dg_sub (E' := [(23, (Zv x2.Field))]) ⟨dpE hd11 9 Z Z, Zt⟩ (dg_plain Z (ow_call Z Z Tryd.call142 (w_impl_FieldTop (hG.mono (lz2.trans hl21)) hC21.old hx5) fun v22 w22 hv22 => ?_))
    obtain ⟨hv22, hb11⟩ := hv22
    obtain rfl := vint_eq hv22
    exact ⟨hb11, Z⟩
   ·
    intro w23 D hS12 hd12
    have hl23 := Le.no M1 hS12
    have hC23 := hC6.no hS12
    have d9 : PV (RSlice RSpan) M1 x3 (D 5) w23 := dpA hd12 5 Z
    have d10 : PV (RSlice RSpan) M1 x4 (D 7) w23 := dpA hd12 7 Z
    generalize hq2 : (D 5) = v23 at d9
    generalize hq3 : (D 7) = v24 at d10
    refine dg_sub (E' := [(19, v23), (21, v24), (24, (Zv x5))]) ⟨congrArg some hq2, congrArg some hq3, dpE hd12 10 Z Z, Zt⟩ (dg_plain Z (ow_call Z Z Tryd.call155 (w_impl_meetSpans (hG.mono (lz2.trans hl23)) hC23.old d9 d10 hx6) fun v25 w24 hv25 => ?_))
    obtain ⟨⟨v26, v27, rfl, hv26, hv27⟩, hb12⟩ := hv25
    obtain ⟨bb3, hbb3, rfl⟩ := vbool_ex hv27
    exact ⟨hb12, ⟨_, _, Z, hv26, (congrArg Value.bool hbb3)⟩⟩
   ·
    intro w25 D hS13 hd13
    have d13 : PT2 (PV (RSlice RSpan) M1 x6.1) (PEq (.bool x6.2)) (D 11) w25 := dpA hd13 11 Z
    obtain ⟨v28, v29, e4, hd14, hd15⟩ := d13
    obtain ⟨bb4, hq4, rfl⟩ : ∃ b, b = x6.2 ∧ v29 = .bool b := ⟨_, rfl, hd15⟩
    exact dg_sub (E' := [(25, (.tuple #[v28, (.bool bb4)]))]) ⟨congrArg some e4, Zt⟩ (dg_plain Z (ow_move Z Z ⟨BX.refl _ _, ⟨_, _, Z, hd14, (congrArg Value.bool hq4)⟩⟩))
   ·
    intro w26 D hS14 hd16
    have d14 : PT2 (PV (RSlice RSpan) M1 x6.1) (PEq (.bool x6.2)) (D 12) w26 := dpA hd16 12 Z
    obtain ⟨v30, v31, e5, hd17, hd18⟩ := d14
    obtain ⟨bb5, hq5, rfl⟩ : ∃ b, b = x6.2 ∧ v31 = .bool b := ⟨_, rfl, hd18⟩
    exact dg_sub (E' := [(13, (.tuple #[v30, (.bool bb5)]))]) ⟨congrArg some e5, Zt⟩ (dg_plain Z (ow_extract Z Z Z ⟨BX.refl _ _, hd17⟩))
   ·
    intro w27 D hS15 hd19
    have d15 : PT2 (PV (RSlice RSpan) M1 x6.1) (PEq (.bool x6.2)) (D 12) w27 := dpA hd19 12 Z
    obtain ⟨v32, v33, e6, hd20, hd21⟩ := d15
    obtain ⟨bb6, hq6, rfl⟩ : ∃ b, b = x6.2 ∧ v33 = .bool b := ⟨_, rfl, hd21⟩
    exact dg_sub (E' := [(13, (.tuple #[v32, (.bool bb6)]))]) ⟨congrArg some e6, Zt⟩ (dg_plain Z (ow_extract Z Z Z ⟨BX.refl _ _, (congrArg Value.bool hq6)⟩))
   ·
    intro w28 D hS16 hd22
    have d29 : PV (RSlice RSpan) M1 x6.1 (D 13) w28 := dpA hd22 13 Z
    have hl28 := Le.no M1 hS16
    have hC28 := hC6.no hS16
    have ho55 := ho11.no hS16 hl28
    have ho56 := ho12.no hS16 hl28
    generalize hq7 : (D 13) = v34 at d29
    refine ls_sub (E' := [(15, (Zv x2.Field)), (26, v34), (2, (Zw g1 0)), (3, (Zw g2 0)), (5, (.pointer (some p2))), (7, v0p), (8, (Zv (a_list.length : Int))), (9, (Zv k1))]) ⟨dpE hd22 1 Z Z, congrArg some hq7, Z, Z, Z, Z, Z, Z, Zt⟩ (ls_op (by kernel_rfl) Z Z Z Z Z (ow_indexA (R := (RSlice RSpan)) Z Z Z Z ho56 Tryd.underlying131 (Tryd.sizeOf121 _) hx3 (ls_op0 (by kernel_rfl) Z Z (ow_storeElA (X := No) (R := (RSlice RSpan)) Z Z Z Z ho56 hx3 (Tryd.sizeOf121 _) d29 hm5 (.inl hg4) hC28 fun w29 ho57 hb13 hl29 hC29 => ?_))))
    have ho58 := ho55.go hb13 (fun e => hn1 e) hl29
    refine ls_nil (ew_blockN (ew_then (cw_region (lw_op Z Z Z (ow_add Z Z Z (lw_op Z Z Z (ow_move Z Z (lw_nil ?_))))))))
    have lz3 := (((hl5.trans hl6).trans hl28).trans hl29)
    exact ew_nxt ((W (k1 + 1)), (List.set y1 (x2.Field : Int).toNat x6.1)) hb5 fun a ha => ⟨M1, (ha.sub ⟨Z, Z, Z, Z, Z, Zt⟩), lz3, hC29, ho58, hm4, ho57, hm5⟩
  ·
   obtain rfl := hbb1.trans hc1
   exact cw_false Z (cw_exit (ew_thenX (ew_thenX (ew_blockX (ew_brk (k1, y1) hb5 fun a ha => ⟨M1, (ha.sub ⟨Z, Z, Z, Z, Z, Zt⟩), hl5, hC5, ho9, hm4, ho10, hm5⟩)))))
 ·
  rintro ⟨k2, y2⟩ a w30 hlr2 ⟨M2, hF2, hl30, hC30, ho59, hm6, ho60, hm7⟩
  subst hlr2
  refine ew_at (E := [(2, (Zw g1 0)), (3, (Zw g2 0)), (7, v0p), (8, (Zv (a_list.length : Int))), (9, (Zv k2))]) hF2 (ew_then (cw_seq (cw_region (lw_op Z Z Z (ow_loadA (R := (RArr 4 (RSlice RSpan))) Z Z Z ho60 (Tryd.sizeOf131 _) (Tryd.isAgg131 _) fun v37 hv37 => ?_)))))
  obtain ⟨cs2, h3, h4⟩ := ho59.own
  refine lw_op0 Z Z (ow_storeA (X := No) (R := (RArr 4 (RSlice RSpan))) Z Z Z Z h3 h4 (Tryd.sizeOf131 _) hv37 hm6 (.inl hg2) hC30 fun w31 ho61 hb14 hl31 hC31 => lw_nil (ew_then (cw_ret ?_)))
  obtain rfl := sj h
  obtain ⟨v38, hq8, hw1⟩ := resA ho61 (Tryd.sizeOf131 _) (Tryd.isAgg131 _) rfl
  exact ew_ret (res1 Z (.cell Z hq8)) ⟨_, Z, (hw1.mono hC31.back), hC31.bx⟩

theorem wt_impl_sides_box {w : World} {M : Nat → Prop} (_hG : ARep (RArr 4 RShape) w M shapes ⟨0, 0, none⟩) (hO : ∀ b, M b → b < w.heap.size) {Y : Nat → Prop} (hY : ∀ b, w.heap.size ≤ b → Y b) {v0p : Value} {a_s : List (List Span)} (h0 : VRep (RArr 4 (RSlice RSpan)) w M a_s v0p) {r : Box} (h : F.impl_sides_box a_s = some r) :
    Calls Tryd.prog 99 [v0p].toArray w fun e w' => ∃ v, e = .returned v ∧ VRep (RBoxT Y 120) w' M r v ∧ BX No w w' := by
  obtain ⟨i120, hi120, hz120, hs120, hy120⟩ := info120
  obtain ⟨i121, hi121, hz121, hs121, hy121⟩ := info121
  have hC : Cx No w M w M := Cx.start hO (fun _ e => e.elim)
  clear _hG
  refine walk (N := 21) Tryd.func99 rfl Tryd.ntmps99 rfl ?_
  refine cw_seq ?_
  refine cw_region ?_
  refine lw_op rfl rfl rfl (ow_box (R := (RArr 4 (RSlice RSpan))) rfl rfl h0 hC fun p1 w1 hp1 hb1 hl1 hC1 => ?_)
  refine lw_op rfl rfl rfl (ow_alloc rfl (Tryd.zeroValue48 _) hC1 fun g1 w2 hg1 hg2 ho1 hb2 hl2 hC2 => ?_)
  have hm1 : (Add g1 M) g1 := .inl rfl
  refine lw_nil ?_
  refine ew_then ?_
  refine cw_seq ?_
  refine cw_region ?_
  replace h := bind_some h
  obtain ⟨mk1, hmk1, h⟩ := h
  refine lw_op rfl rfl rfl (ow_make (R := RTg (RSpR 120)) rfl rfl rfl Tryd.underlying46 hi121 hz121 hs121 hy121 rfl rfl vtg_nil (makeF_tag hmk1) hC2 fun v1 w3 M1 hr1 hb3 hl3 hC3 hM1 hat1 => ?_)
  have ho2 := ho1.no hb3
  have hm2 := hM1 _ hm1
  obtain ⟨A1, c1, rfl⟩ : ∃ A c, v1 = .slice A mk1.length c := by
    obtain ⟨A, c, e⟩ := hr1.len
    exact ⟨A, c, by rw [e, List.length_map]⟩
  refine lw_op rfl rfl rfl (ow_build (v := .agg #[(.slice A1 mk1.length c1)]) rfl rfl (by kernel_rfl) ?_)
  refine lw_op rfl rfl rfl (ow_alloc rfl (Tryd.zeroValue48 _) hC3 fun g2 w4 hg3 hg4 ho3 hb4 hl4 hC4 => ?_)
  have hn1 := Nat.ne_of_lt (Nat.lt_of_lt_of_le ho2.lt hg3)
  have ho4 := ho2.no hb4
  have hm3 : (Add g2 M1) g1 := .inr hm2
  have hr2 := hr1.add hb4 hg3
  have hm4 : (Add g2 M1) g2 := .inl rfl
  refine lw_op0 rfl rfl (ow_store (X := No) (us := [(.slice A1 mk1.length c1)]) (cs' := #[(.slice A1 mk1.length c1)]) rfl rfl rfl rfl ho3 (Tryd.sizeOf48 _) rfl rfl rfl rfl hm4 (.inl hg4) rfl hC4 fun w5 ho5 hb5 hl5 hC5 => ?_)
  have ho6 := ho4.go hb5 (fun e => hn1 e)
  have hr3 := hr2.go hb5 (fun k hk e => (orow_ne hr2 ho3 (by decide)) (hk.trans (congrArg some e))) hl5 (fun _ h => h)
  refine lw_nil ?_
  refine ew_then ?_
  refine cw_seq ?_
  refine cw_seq ?_
  refine cw_region ?_
  have lz1 := (((hl2.trans hl3).trans hl4).trans hl5)
  refine lw_op rfl rfl rfl (ow_load (R := (RArr 4 (RSlice RSpan))) rfl rfl (ARep.mono lz1 hp1) (Tryd.sizeOf131 _) (Tryd.isAgg131 _) fun v2 hv2 => ?_)
  refine lw_op rfl rfl rfl (ow_move rfl rfl ?_)
  refine lw_nil ?_
  refine ew_then ?_
  replace h := bind_some h
  obtain ⟨lr1, hlr1, h⟩ := h
  refine cw_for hlr1 (fun s a w' => ∃ (M' : Nat → Prop) (gs : List (Tag × List Span)), Fits 21 [(2, (.pointer (some ⟨g1, 0, none⟩))), (3, (.pointer (some ⟨g2, 0, none⟩))), (8, v2), (9, (.int .i64 s.1))] a ∧ Le w5 (Add g2 M1) w' M' ∧ Cx No w M w' M' ∧ (gs.map (·.2) = s.2 ∧ TagOk w.heap.size gs w') ∧ OwnRow (RTg (RSpR 120)) w.heap.size 121 w' M' gs (.slice A1 mk1.length c1) ∧ Own w' g1 48 #[(.slice none 0 0)] ∧ M' g1 ∧ Own w' g2 48 #[(.slice A1 mk1.length c1)] ∧ M' g2) ?_ ?_ ?_
  · intro a ha
    exact ⟨(Add g2 M1), _, ha.sub ⟨rfl, rfl, rfl, rfl, trivial⟩, Le.refl _ _, hC5, ⟨tag_snd, TagOk.zero⟩, hr3, ho6, hm3, ho5, hm4⟩
  · rintro ⟨k1, y1⟩ a w6 sr1 ⟨M2, gs, hF1, hl6, hC6, ⟨hgs, hgt⟩, hw1, ho7, hm5, ho8, hm6⟩ hb6 hR1
    refine cw_at (E := [(2, (.pointer (some ⟨g1, 0, none⟩))), (3, (.pointer (some ⟨g2, 0, none⟩))), (8, v2), (9, (.int .i64 k1))]) hF1 ?_
    refine cw_seq ?_
    refine cw_region ?_
    refine lw_op rfl rfl rfl (ow_lss rfl rfl rfl fun bb1 hbb1 => ?_)
    refine lw_nil ?_
    refine ew_then ?_
    refine cw_seq ?_
    replace hb6 := cond_some hb6
    rcases hb6 with ⟨hc1, hb6⟩ | ⟨hc1, hb6⟩
    · obtain rfl := hbb1.trans hc1
      refine cw_true rfl ?_
      refine cw_skip ?_
      refine ew_then ?_
      refine cw_seq ?_
      refine cw_block ?_
      refine cw_seq ?_
      refine cw_region ?_
      refine lw_op rfl rfl rfl (ow_move rfl rfl ?_)
      replace hb6 := bind_some hb6
      obtain ⟨x1, hx1, hb6⟩ := hb6
      refine lw_op rfl rfl rfl (ow_index (R := (RSlice RSpan)) rfl rfl rfl (VRep.mono hl6 hv2) Tryd.underlying131 (Tryd.sizeOf121 _) (Tryd.isAgg121 _) hx1 fun v5 hv5 => ?_)
      refine lw_op rfl rfl rfl (ow_assign rfl rfl ?_)
      refine lw_op rfl rfl rfl (ow_assign rfl rfl ?_)
      refine lw_nil ?_
      refine ew_then ?_
      replace hb6 := bind_some hb6
      obtain ⟨z1, hz1, hb6⟩ := hb6
      have lz2 := (((((hl1.trans hl2).trans hl3).trans hl4).trans hl5).trans hl6)
      refine cw_sub (E' := [(2, (.pointer (some ⟨g1, 0, none⟩))), (3, (.pointer (some ⟨g2, 0, none⟩))), (4, (.int .i64 k1)), (5, v5), (8, v2), (9, (.int .i64 k1))]) ⟨rfl, rfl, rfl, rfl, rfl, rfl, trivial⟩ ?_
      refine cw_drawQ 5 [PEq (.pointer (some ⟨g2, 0, none⟩)), PEq (.slice A1 mk1.length c1), PEq (.int .i64 k1), PV (RSlice RSpan) M2 x1, PV (RSpR 120) (fun b => M2 b ∨ b < w6.heap.size) z1] (by kernel_rfl) rfl (by kernel_rfl) ⟨PEq.mono _, PEq.mono _, PEq.mono _, PV.mono _ _ _, PV.mono _ _ _, trivial⟩ ⟨?_, ?_, ?_, ?_, ?_, trivial⟩ ?_
      · intro w8 D hS1 hd1
        have hl8 := Le.no M2 hS1
        have hC8 := hC6.no hS1
        have ho11 := ho7.no hS1
        have ho12 := ho8.no hS1
        have hr5 := hw1.no hS1
        refine dg_sub (E' := [(3, (.pointer (some ⟨g2, 0, none⟩)))]) ⟨rfl, trivial⟩ ?_
        refine dg_plain rfl (ow_fieldAddr rfl rfl Tryd.underlying48 rfl (Tryd.sizeOf46 _) ?_)
        exact ⟨BX.refl _ _, rfl⟩
      · intro w9 D hS2 hd2
        have hl9 := Le.no M2 hS2
        have hC9 := hC6.no hS2
        have ho13 := ho7.no hS2
        have ho14 := ho8.no hS2
        have hr6 := hw1.no hS2
        have d1 : PEq (.pointer (some ⟨g2, 0, none⟩)) (D 0) w9 := dpA hd2 0 rfl
        refine dg_sub (E' := [(13, (.pointer (some ⟨g2, 0, none⟩)))]) ⟨(congrArg some d1), trivial⟩ ?_
        refine dg_plain rfl (ow_loadOwn1 rfl rfl rfl ho14 (Tryd.isAgg46 _) rfl ?_)
        exact ⟨BX.refl _ _, rfl⟩
      · intro w10 D hS3 hd3
        have hl10 := Le.no M2 hS3
        have hC10 := hC6.no hS3
        have ho15 := ho7.no hS3
        have ho16 := ho8.no hS3
        have hr7 := hw1.no hS3
        refine dg_sub (E' := [(4, (.int .i64 k1))]) ⟨rfl, trivial⟩ ?_
        refine dg_plain rfl (ow_move rfl rfl ?_)
        exact ⟨BX.refl _ _, rfl⟩
      · intro w11 D hS4 hd4
        have hl11 := Le.no M2 hS4
        have hC11 := hC6.no hS4
        have ho17 := ho7.no hS4
        have ho18 := ho8.no hS4
        have hr8 := hw1.no hS4
        refine dg_sub (E' := [(5, v5)]) ⟨rfl, trivial⟩ ?_
        refine dg_plain rfl (ow_move rfl rfl ?_)
        exact ⟨BX.refl _ _, (VRep.mono hl11 hv5)⟩
      · intro w12 D hS5 hd5
        have hl12 := Le.no M2 hS5
        have hC12 := hC6.no hS5
        have ho19 := ho7.no hS5
        have ho20 := ho8.no hS5
        have hr9 := hw1.no hS5
        have d2 : PV (RSlice RSpan) M2 x1 (D 3) w12 := dpA hd5 3 rfl
        generalize hq1 : (D 3) = v7 at d2
        refine dg_sub (E' := [(16, v7)]) ⟨(congrArg some hq1), trivial⟩ ?_
        refine dg_plain rfl (ow_append (R := RSpan) (xs := []) (v := .slice none 0 0) rfl rfl rfl rfl Tryd.underlying121 hi120 hz120 hs120 hy120 rfl rfl rfl rfl ownrow_nil d2 hz1 hC12 fun v8 w13 M13 hr13 hb8 hl13 hC13 hM13 hat13 => ?_)
        replace hb8 : BX No w12 w13 := hb8.mono (fun b _ e => by cases e)
        have ho21 := ho19.no hb8
        have ho22 := ho20.no hb8
        have hr10 := hr9.no hb8
        exact ⟨hb8, hr13.spr (app_fresh hat13 hC12.old hS5.size)⟩
      · intro w14 D hS6 hd6
        have d4 : PEq (.slice A1 mk1.length c1) (D 1) w14 := dpA hd6 1 rfl
        have d5 : PEq (.int .i64 k1) (D 2) w14 := dpA hd6 2 rfl
        have d7 : PV (RSpR 120) (fun b => M2 b ∨ b < w6.heap.size) z1 (D 4) w14 := dpA hd6 4 rfl
        have hl14 := Le.no M2 hS6
        have hC14 := hC6.no hS6
        have ho23 := ho7.no hS6
        have ho24 := ho8.no hS6
        have hr11 := hw1.no hS6
        generalize hq2 : (D 4) = v9 at d7
        refine lw_sub (E' := [(14, (.slice A1 mk1.length c1)), (15, (.int .i64 k1)), (17, v9), (2, (.pointer (some ⟨g1, 0, none⟩))), (3, (.pointer (some ⟨g2, 0, none⟩))), (4, (.int .i64 k1)), (5, v5), (8, v2), (9, (.int .i64 k1))]) ⟨(congrArg some d4), (congrArg some d5), (congrArg some hq2), rfl, rfl, rfl, rfl, rfl, rfl, trivial⟩ ?_
        replace hb6 := bind_some hb6
        obtain ⟨x2, hx2, hb6⟩ := hb6
        obtain ⟨y2t, hx2t⟩ := idx_tag (show idx (gs.map (·.2)) k1 = some x2 by rw [hgs]; exact hx2)
        refine lw_op rfl rfl rfl (ow_indexRow (R := RTg (RSpR 120)) rfl rfl rfl hr11 Tryd.underlying46 (Tryd.sizeOf121 _) hx2t ?_)
        refine lw_op0 rfl rfl (ow_storeElRow (X := No) (R := RTg (RSpR 120)) (S := RTg (RSpR 120)) rfl rfl rfl rfl hr11 (orow_blk hr11 hx2t) hx2t (FldSet.whole (RTg (RSpR 120))) (Tryd.sizeOf121 _) (spr_tag d7) (Nat.le_refl _) hC14 fun w15 ho25 hb9 hl15 hC15 => ?_)
        have ho26 := ho23.go hb9 (fun e => (orow_ne hr11 ho23 (by decide)) (by rw [orow_blk hr11 hx2t]; exact congrArg some e.symm))
        have ho27 := ho24.go hb9 (fun e => (orow_ne hr11 ho24 (by decide)) (by rw [orow_blk hr11 hx2t]; exact congrArg some e.symm))
        refine lw_nil ?_
        refine ew_blockN ?_
        refine ew_then ?_
        refine cw_region ?_
        refine lw_op rfl rfl rfl (ow_add rfl rfl rfl ?_)
        refine lw_op rfl rfl rfl (ow_move rfl rfl ?_)
        refine lw_nil ?_
        have lz3 := ((hl6.trans hl14).trans hl15)
        refine ew_nxt ((W (k1 + 1)), (List.set y1 (k1 : Int).toNat z1)) hb6 fun a ha => ⟨M2, _, ?_, lz3, hC15, ⟨by show List.map _ (List.set _ _ _) = List.set y1 _ z1; rw [List.map_set, hgs], hgt.set (Nat.le_refl _) hC6.bx.size hb9.size (Nat.le_trans hS6.size hb9.size) _ _⟩, ho25, ho26, hm5, ho27, hm6⟩
        exact ha.sub ⟨rfl, rfl, rfl, rfl, trivial⟩
    · obtain rfl := hbb1.trans hc1
      refine cw_false rfl ?_
      refine cw_exit ?_
      refine ew_thenX ?_
      refine ew_thenX ?_
      refine ew_blockX ?_
      refine ew_brk (k1, y1) hb6 fun a ha => ⟨M2, gs, ?_, hl6, hC6, ⟨hgs, hgt⟩, hw1, ho7, hm5, ho8, hm6⟩
      exact ha.sub ⟨rfl, rfl, rfl, rfl, trivial⟩
  · rintro ⟨k2, y2⟩ a w16 hlr2 ⟨M3, gs, hF2, hl16, hC16, ⟨hgs, hgt⟩, hw4, ho28, hm7, ho29, hm8⟩
    subst hlr2
    refine ew_at (E := [(2, (.pointer (some ⟨g1, 0, none⟩))), (3, (.pointer (some ⟨g2, 0, none⟩))), (8, v2), (9, (.int .i64 k2))]) hF2 ?_
    refine ew_then ?_
    refine cw_seq ?_
    refine cw_region ?_
    refine lw_op rfl rfl rfl (ow_loadOwnA rfl rfl rfl ho29 (Tryd.isAgg48 _) (Tryd.sizeOf48 _) rfl ?_)
    refine lw_op0 rfl rfl (ow_store (X := No) (us := [(.slice A1 mk1.length c1)]) (cs' := #[(.slice A1 mk1.length c1)]) rfl rfl rfl rfl ho28 (Tryd.sizeOf48 _) rfl rfl rfl rfl hm7 (.inl hg2) rfl hC16 fun w17 ho30 hb10 hl18 hC18 => ?_)
    have ho31 := ho29.go hb10 (fun e => hn1 e.symm)
    refine lw_nil ?_
    refine ew_then ?_
    refine cw_ret ?_
    have hr17 := hw4.go hb10 (fun k hk e => (orow_ne hw4 ho28 (by decide)) (hk.trans (congrArg some e))) hl18 (fun _ h => h)
    have hbt := hr17.freezeT (hgt.le hb10.size) hC18 hO hY rfl
    rw [show gs.map (·.2) = y2 from hgs] at hbt
    obtain rfl := Option.some.inj h
    exact ew_ret (res1 rfl (.cell rfl (own_loadVarA ho30 (Tryd.isAgg48 _) (Tryd.sizeOf48 _) rfl))) ⟨_, rfl, shutT_Box hbt, hC18.bx⟩

theorem wt_impl_TestsBox {w : World} {M : Nat → Prop} (hG : ARep (RArr 4 RShape) w M shapes ⟨0, 0, none⟩) (hO : ∀ b, M b → b < w.heap.size) {Y : Nat → Prop} (hY : ∀ b, w.heap.size ≤ b → Y b) {v0p : Value} {a_list : List Test} (h0 : VRep (RSlice RTest) w M a_list v0p) {r : Box} (h : F.impl_TestsBox a_list = some r) :
    Calls Tryd.prog 36 [v0p].toArray w fun e w' => ∃ v, e = .returned v ∧ VRep (RBoxT Y 120) w' M r v ∧ BX No w w' := by
  have hC : Cx No w M w M := Cx.start hO (fun _ e => e.elim)
  refine walk (N := 10) Tryd.func36 rfl Tryd.ntmps36 rfl ?_
  refine cw_seq ?_
  refine cw_region ?_
  refine lw_op rfl rfl rfl (ow_alloc rfl (Tryd.zeroValue48 _) hC fun g1 w1 hg1 hg2 ho1 hb1 hl1 hC1 => ?_)
  have hm1 : (Add g1 M) g1 := .inl rfl
  refine lw_nil ?_
  refine ew_then ?_
  refine cw_seq ?_
  refine cw_seq ?_
  refine cw_region ?_
  refine lw_op rfl rfl rfl (ow_move rfl rfl ?_)
  replace h := bind_some h
  obtain ⟨x1, hx1, h⟩ := h
  refine lw_op rfl rfl rfl (ow_call rfl rfl Tryd.call106 (w_impl_TestsValid (hG.mono hl1) hC1.old (VRep.mono hl1 h0) hx1) fun v1 w2 hv1 => ?_)
  obtain ⟨hv1, hb2⟩ := hv1
  have hl2 := Le.no (Add g1 M) hb2
  have hC2 := hC1.no hb2
  have ho2 := ho1.no hb2
  obtain rfl := vbool_eq hv1
  refine lw_op rfl rfl rfl (ow_not rfl rfl ?_)
  refine lw_nil ?_
  refine ew_then ?_
  replace h := cond_some h
  rcases h with ⟨hc1, h⟩ | ⟨hc1, h⟩
  · subst hc1
    refine cw_false rfl ?_
    refine cw_skip ?_
    refine ew_then ?_
    refine cw_seq ?_
    refine cw_region ?_
    refine lw_op rfl rfl rfl (ow_move rfl rfl ?_)
    replace h := bind_some h
    obtain ⟨x2, hx2, h⟩ := h
    refine lw_op rfl rfl rfl (ow_call rfl rfl Tryd.call107 (w_impl_testsSides (hG.mono (hl1.trans hl2)) hC2.old (VRep.mono (hl1.trans hl2) h0) hx2) fun v2 w3 hv2 => ?_)
    obtain ⟨hv2, hb3⟩ := hv2
    have hl3 := Le.no (Add g1 M) hb3
    have hC3 := hC2.no hb3
    have ho3 := ho2.no hb3
    replace h := bind_some h
    obtain ⟨x3, hx3, h⟩ := h
    have lz1 := ((hl1.trans hl2).trans hl3)
    refine lw_op rfl rfl rfl (ow_call rfl rfl Tryd.call99 (wt_impl_sides_box (hG.mono lz1) hC3.old (fun b hb => hY b (Nat.le_trans hC3.bx.size hb)) hv2 hx3) fun v3 w4 hv3 => ?_)
    obtain ⟨hv3, hb4⟩ := hv3
    have hl4 := Le.no (Add g1 M) hb4
    have hC4 := hC3.no hb4
    have ho4 := ho3.no hb4
    obtain ⟨A1, c1, rfl, hw1⟩ := openT_Box hv3
    refine lw_op0 rfl rfl (ow_store (X := No) (us := [(.slice A1 x3.Sides.length c1)]) (cs' := #[(.slice A1 x3.Sides.length c1)]) rfl rfl rfl rfl ho4 (Tryd.sizeOf48 _) rfl rfl rfl rfl hm1 (.inl hg2) rfl hC4 fun w5 ho5 hb5 hl5 hC5 => ?_)
    refine lw_nil ?_
    refine ew_then ?_
    refine cw_ret ?_
    have hw2 : VRep (RBoxT Y 120) w5 (Add g1 M) ({ Sides := x3.Sides } : Box) (.agg #[(.slice A1 x3.Sides.length c1)]) := shutT_Box (VRep.mono hl5 hw1)
    obtain rfl := Option.some.inj h
    exact ew_ret (res1 rfl (.cell rfl (own_loadVarA ho5 (Tryd.isAgg48 _) (Tryd.sizeOf48 _) rfl))) ⟨_, rfl, (hw2.mono hC5.back), hC5.bx⟩
  · subst hc1
    refine cw_true rfl ?_
    refine cw_seq ?_
    refine cw_region ?_
    refine lw_op rfl rfl rfl (ow_build (v := .agg #[(.slice none 0 0)]) rfl rfl (by kernel_rfl) ?_)
    have hw3 : VRep (RBoxT Y 120) w2 (Add g1 M) ({ Sides := ([] : List (List Span)) } : Box) (.agg #[(.slice none 0 0)]) := shutT_Box (vsliceT_nil (Y := Y) (R := RSpR 120) (w := w2) (M := (Add g1 M)))
    refine lw_op0 rfl rfl (ow_store (X := No) (us := [(.slice none 0 0)]) (cs' := #[(.slice none 0 0)]) rfl rfl rfl rfl ho2 (Tryd.sizeOf48 _) rfl rfl rfl rfl hm1 (.inl hg2) rfl hC2 fun w6 ho6 hb6 hl6 hC6 => ?_)
    refine lw_nil ?_
    refine ew_then ?_
    refine cw_ret ?_
    refine ew_thenR ?_
    have hw4 : VRep (RBoxT Y 120) w6 (Add g1 M) ({ Sides := ([] : List (List Span)) } : Box) (.agg #[(.slice none 0 0)]) := shutT_Box (VRep.mono hl6 (vsliceT_nil (Y := Y) (R := RSpR 120) (w := w2) (M := (Add g1 M))))
    obtain rfl := Option.some.inj h
    exact ew_ret (res1 rfl (.cell rfl (own_loadVarA ho6 (Tryd.isAgg48 _) (Tryd.sizeOf48 _) rfl))) ⟨_, rfl, (hw4.mono hC6.back), hC6.bx⟩

theorem w_laws_FnExactTestsBox {w : World} {M : Nat → Prop} (hG : ARep (RArr 4 RShape) w M shapes ⟨0, 0, none⟩) (hO : ∀ b, M b → b < w.heap.size) {v0p : Value} {a_aList : List Test} (h0 : VRep (RSlice RTest) w M a_aList v0p) {r : Bool} (h : F.laws_FnExactTestsBox a_aList = some r) :
  Calls Tryd.prog 7 [v0p].toArray w fun e w' => ∃ v, e = .returned v ∧ VRep RBool w' M r v ∧ BX No w w' := by
 have hC : Cx No w M w M := Cx.start hO (fun _ e => e.elim)
 refine walk (N := 69) Tryd.func7 Z Tryd.ntmps7 Z (cw_seq (cw_region (lw_op Z Z Z (ow_assign Z Z (lw_nil (ew_then (cw_seq (cw_region (lw_op Z Z Z (ow_assign Z Z (lw_nil (ew_then (cw_seq (cw_region (lw_op Z Z Z (ow_move Z Z (lw_op Z Z Z (ow_move Z Z ?_))))))))))))))))))
 replace h := bind_some h
 obtain ⟨x1, hx1, h⟩ := h
 refine lw_op Z Z Z (ow_call Z Z Tryd.call33 (w_laws_szTestS hG hC.old h0 hx1) fun v1 w1 hv1 => ?_)
 obtain ⟨hv1, hb1⟩ := hv1
 have hl1 := Le.no M hb1
 have hC1 := hC.no hb1
 obtain rfl := vint_eq hv1
 refine lw_op Z Z Z (ow_assign Z Z (lw_nil (ew_then (cw_seq (cw_seq (cw_region (lw_op Z Z Z (ow_move Z Z (lw_op Z Z Z (ow_lss Z Z Z fun bb1 hbb1 => lw_nil (ew_then ?_)))))))))))
 replace h := cond_some h
 rcases h with ⟨hc1, h⟩ | ⟨hc1, h⟩
 ·
  obtain rfl := hbb1.trans hc1
  refine cw_true Z (cw_seq (cw_region (lw_op Z Z Z (ow_assign Z Z (lw_nil (ew_then (cw_ret (ew_thenR ?_))))))))
  obtain rfl := sj h
  exact ew_ret (res1 Z (.tmp Z)) ⟨_, Z, ((vbool _)), hC1.bx⟩
 ·
  obtain rfl := hbb1.trans hc1
  refine cw_false Z (cw_skip (ew_then (cw_seq (cw_region (lw_op Z Z Z (ow_move Z Z ?_))))))
  replace h := bind_some h
  obtain ⟨x2, hx2, h⟩ := h
  refine lw_op Z Z Z (ow_call Z Z Tryd.call35 (wu_laws_toTestS (hG.mono hl1) hC1.old (Y := (fun b => w1.heap.size ≤ b)) (fun _ hb => hb) (VRep.mono hl1 h0) hx2) fun v2 w2 hv2 => ?_)
  obtain ⟨hv2, hb2⟩ := hv2
  have hl2 := Le.no M hb2
  have hC2 := hC1.no hb2
  have hw1 := Fg.vrep (Fg.slice (Fg.refl RTest)) hv2
  replace h := bind_some h
  obtain ⟨x3, hx3, h⟩ := h
  refine lw_op Z Z Z (ow_call Z Z Tryd.call34 (w_spec_TestsBox (hG.mono (hl1.trans hl2)) hC2.old hw1 hx3) fun v3 w3 hv3 => ?_)
  obtain ⟨hv3, hb3⟩ := hv3
  have hl3 := Le.no M hb3
  have hC3 := hC2.no hb3
  refine lw_allocStore (R := RBox) Z Z Z Z Z Z Z Tryd.zeroValue48 Tryd.sizeOf48 Z Z Z (by simp) hv3 hC3 fun p1 w4 hp1 hb4 hl4 hC4 => lw_nil (ew_then (cw_seq (cw_region (lw_op Z Z Z (ow_move Z Z ?_)))))
  have lz1 := (((hl1.trans hl2).trans hl3).trans hl4)
  refine lw_op Z Z Z (ow_call Z Z Tryd.call35 (wu_laws_toTestS (hG.mono lz1) hC4.old (Y := (fun b => w4.heap.size ≤ b)) (fun _ hb => hb) (VRep.mono lz1 h0) hx2) fun v4 w5 hv4 => ?_)
  obtain ⟨hv4, hb5⟩ := hv4
  have hl5 := Le.no M hb5
  have hC5 := hC4.no hb5
  have hw2 := Fg.vrep (Fg.slice (Fg.refl RTest)) hv4
  have hw3 := Wd.vrep (Wd.slice wd_Test) hv4
  have hu1 := UFz.yf (fun b => w4.heap.size ≤ b) w5
  have hs1 : w4.heap.size ≤ w4.heap.size := Nat.le_refl _
  refine lw_op Z Z Z (ow_assign Z Z (lw_nil (ew_then (cw_seq (cw_region (lw_op Z Z Z (ow_move Z Z ?_)))))))
  replace h := bind_some h
  obtain ⟨x4, hx4, h⟩ := h
  refine lw_op Z Z Z (ow_call Z Z Tryd.call36 (wt_impl_TestsBox (hG.mono (lz1.trans hl5)) hC5.old (Y := (fun b => w5.heap.size ≤ b)) (fun _ hb => hb) hw2 hx4) fun v5 w6 hv5 => ?_)
  obtain ⟨hv5, hb6⟩ := hv5
  have hl6 := Le.no M hb6
  have hC6 := hC5.no hb6
  have hw4 := VRep.mono (Le.no _ hb6) hw3
  have hu2 := UFz.no hu1 hb6
  have hw5 := Fg.vrep (Fg.in_ fgBoxS) hv5
  have hw6 := RIn.yb bdBoxS hv5
  have hs2 : w5.heap.size ≤ w5.heap.size := Nat.le_refl _
  have hs3 : w4.heap.size ≤ w5.heap.size := hl5.size
  refine lw_op Z Z Z (ow_alloc Z (Tryd.zeroValue48 _) hC6 fun g1 w7 hg1 hg2 ho1 hb7 hl7 hC7 => ?_)
  have hy1 := fun (h : (YF (fun b => w4.heap.size ≤ b) w5) g1) => Nat.lt_irrefl _ (Nat.lt_of_lt_of_le (hu2 _ h).1 hg1)
  have hy2 := fun (h : (YB (fun b => w5.heap.size ≤ b) w6) g1) => Nat.lt_irrefl _ (Nat.lt_of_lt_of_le h.2 (Nat.le_trans (Nat.le_refl _) hg1))
  have hw7 := VRep.mono (Le.no _ hb7) hw4
  have hu3 := UFz.no hu2 hb7
  have hw8 := VRep.mono (Le.no _ hb7) hw6
  have hs4 := Nat.le_trans (Nat.le_refl _) hb7.size
  have hm1 : (Add g1 M) g1 := .inl Z
  obtain ⟨A1, c1, rfl, hw9⟩ := open_Box hw5
  refine lw_op0 Z Z (ow_store (X := No) (us := [(.slice A1 x4.Sides.length c1)]) (cs' := #[(.slice A1 x4.Sides.length c1)]) Z Z Z Z ho1 (Tryd.sizeOf48 _) Z Z Z Z hm1 (.inl hg2) Z hC7 fun w8 ho2 hb8 hl8 hC8 => ?_)
  have hw10 := VRep.other hw7 hb8 (fun b e h => hy1 ((show b = g1 from e) ▸ h))
  have hu4 := UFz.other hu3 hb8 (fun b e h => hy1 ((show b = g1 from e) ▸ h))
  have hw11 := VRep.other hw8 hb8 (fun b e h => hy2 ((show b = g1 from e) ▸ h))
  have hs5 := Nat.le_trans hs4 hb8.size
  refine lw_nil (ew_then (cw_seq (cw_seq (cw_region (lw_op Z Z Z (ow_loadOwnA Z Z Z ho2 (Tryd.isAgg48 _) (Tryd.sizeOf48 _) Z ?_))))))
  have hw12 : VRep RBox w8 (Add g1 M) ({ Sides := x4.Sides } : Box) (.agg #[(.slice A1 x4.Sides.length c1)]) := shut_Box (VRep.mono (hl7.trans hl8) hw9)
  have lz2 := (((hl5.trans hl6).trans hl7).trans hl8)
  refine lw_op Z Z Z (ow_load (R := RBox) Z Z (ARep.mono lz2 hp1) (Tryd.sizeOf48 _) (Tryd.isAgg48 _) fun v6 hv6 => ?_)
  replace h := bind_some h
  obtain ⟨x5, hx5, h⟩ := h
  have lz3 := ((((lz1.trans hl5).trans hl6).trans hl7).trans hl8)
  refine lw_op Z Z Z (ow_call Z Z Tryd.call26 (w_laws_eqBox (hG.mono lz3) hC8.old hw12 hv6 hx5) fun v7 w9 hv7 => ?_)
  obtain ⟨hv7, hb9⟩ := hv7
  have hl9 := Le.no (Add g1 M) hb9
  have hC9 := hC8.no hb9
  have hw13 := VRep.mono (Le.no _ hb9) hw10
  have hu5 := UFz.no hu4 hb9
  have hw14 := VRep.mono (Le.no _ hb9) hw11
  have hs6 := Nat.le_trans hs5 hb9.size
  have ho3 := ho2.no hb9
  obtain rfl := vbool_eq hv7
  refine lw_op Z Z Z (ow_not Z Z (lw_nil (ew_then ?_)))
  replace h := cond_some h
  rcases h with ⟨hc2, h⟩ | ⟨hc2, h⟩
  ·
   subst hc2
   refine cw_false Z (cw_skip (ew_then (cw_seq (cw_seq (cw_region (lw_op Z Z Z (ow_move Z Z (lw_op Z Z Z (ow_move Z Z (lw_op Z Z Z (ow_call Z Z Tryd.call35 (wu_laws_toTestS (hG.mono (lz3.trans hl9)) hC9.old (Y := (fun b => w9.heap.size ≤ b)) (fun _ hb => hb) (VRep.mono (lz3.trans hl9) h0) hx2) fun v8 w10 hv8 => ?_)))))))))))
   obtain ⟨hv8, hb10⟩ := hv8
   have hl10 := Le.no (Add g1 M) hb10
   have hC10 := hC9.no hb10
   have hw15 := VRep.mono (Le.no _ hb10) hw13
   have hu6 := UFz.no hu5 hb10
   have hw16 := VRep.mono (Le.no _ hb10) hw14
   have hs7 := Nat.le_trans hs6 hb10.size
   have ho4 := ho3.no hb10
   have hw17 := Fg.vrep (Fg.slice (Fg.refl RTest)) hv8
   have lz4 := ((((hl6.trans hl7).trans hl8).trans hl9).trans hl10)
   replace h := bind_some h
   obtain ⟨x6, hx6, h⟩ := h
   have lz5 := ((lz3.trans hl9).trans hl10)
   refine lw_op Z Z Z (ow_call Z Z Tryd.call25 (w_laws_eqTestS (hG.mono lz5) hC10.old (VRep.mono lz4 hw2) hw17 hx6) fun v9 w11 hv9 => ?_)
   obtain ⟨hv9, hb11⟩ := hv9
   have hl11 := Le.no (Add g1 M) hb11
   have hC11 := hC10.no hb11
   have hw18 := VRep.mono (Le.no _ hb11) hw15
   have hu7 := UFz.no hu6 hb11
   have hw19 := VRep.mono (Le.no _ hb11) hw16
   have hs8 := Nat.le_trans hs7 hb11.size
   have ho5 := ho4.no hb11
   obtain rfl := vbool_eq hv9
   refine lw_op Z Z Z (ow_not Z Z (lw_nil (ew_then ?_)))
   replace h := cond_some h
   rcases h with ⟨hc3, h⟩ | ⟨hc3, h⟩
   ·
    subst hc3
    refine cw_false Z (cw_skip (ew_then (cw_seq (cw_region (lw_op Z Z Z (ow_assign Z Z (lw_nil (ew_then (cw_seq (cw_region (lw_op Z Z Z (ow_move Z Z (lw_op Z Z Z (ow_move Z Z ?_))))))))))))))
    replace h := bind_some h
    obtain ⟨x7, hx7, h⟩ := h
    refine lw_op Z Z Z (ow_call Z Z Tryd.call28 (wm_laws_markTestS hu7 hw18 hx7) fun v10 w12 hv10 => ?_)
    obtain ⟨rfl, hmk1⟩ := hv10
    have hl12 := Le.reset ((((((hl5.trans hl6).trans hl7).trans hl8).trans hl9).trans hl10).trans hl11) hmk1.bx (fun b h => Nat.le_trans hs1 h.1)
    have hC12 := Cx.reset hC4 hC11 hmk1.bx (fun b h => Nat.le_trans hC4.bx.size h.1) (Nat.le_trans ((((((hl5.trans hl6).trans hl7).trans hl8).trans hl9).trans hl10).trans hl11).size hmk1.bx.size)
    have ho6 := ho5.go hmk1.bx hy1
    have hw20 := VRep.other hw19 hmk1.bx (fun b h1 h2 => Nat.lt_irrefl _ (Nat.lt_of_lt_of_le h1.2.1 (Nat.le_trans hs2 h2.1)))
    have hs9 := Nat.le_trans hs8 hmk1.bx.size
    have hw21 := VRep.mono (Le.sub _ (show ∀ b, M b → NotY (YB (fun b => w5.heap.size ≤ b) w6) b from fun b h1 h2 => Nat.lt_irrefl _ (Nat.lt_of_lt_of_le (hC4.old b h1) (Nat.le_trans hs3 h2.1)))) (Fg.vrep fgSSS (sidesS hw20))
    refine lw_op Z Z Z (ow_assign Z Z (lw_nil (ew_then (cw_seq (cw_seq (cw_region (lw_op Z Z Z (ow_move Z Z (lw_op Z Z Z (ow_lss Z Z Z fun bb2 hbb2 => lw_op Z Z Z (ow_move Z Z ?_)))))))))))
    replace h := cond_some h
    rcases h with ⟨hc4, h⟩ | ⟨hc4, h⟩
    ·
     obtain rfl := hbb2.trans hc4
     refine lw_off Z Z Z Z Z Z (lw_off Z Z Z Z Z Z (lw_off Z Z Z Z Z Z (lw_off Z Z Z Z Z Z (lw_op Z Z Z (ow_pickT Z Z Z (lw_nil (ew_then (cw_true Z (cw_seq (cw_region (lw_op Z Z Z (ow_assign Z Z (lw_nil (ew_then (cw_ret (ew_thenR ?_))))))))))))))))
     obtain rfl := sj h
     exact ew_ret (res1 Z (.tmp Z)) ⟨_, Z, ((vbool _)), hC12.bx⟩
    ·
     obtain rfl := hbb2.trans hc4
     refine lw_on Z Z Z Z Z Z (ow_loadOwnA Z Z Z ho6 (Tryd.isAgg48 _) (Tryd.sizeOf48 _) Z ?_)
     have hw22 : VRep RBox w12 M ({ Sides := x4.Sides } : Box) (.agg #[(.slice A1 x4.Sides.length c1)]) := shut_Box hw21
     refine lw_on Z Z Z Z Z Z (ow_load (R := RBox) Z Z (ARep.mono hl12 hp1) (Tryd.sizeOf48 _) (Tryd.isAgg48 _) fun v11 hv11 => ?_)
     have lz6 := ((((hl1.trans hl2).trans hl3).trans hl4).trans hl12)
     refine lw_on Z Z Z Z Z Z (ow_call Z Z Tryd.call26 (w_laws_eqBox (hG.mono lz6) hC12.old hw22 hv11 hx5) fun v12 w13 hv12 => ?_)
     obtain ⟨hv12, hb12⟩ := hv12
     have hl13 := Le.no M hb12
     have hC13 := hC12.no hb12
     have hw23 := VRep.mono (Le.no _ hb12) hw20
     have hs10 := Nat.le_trans hs9 hb12.size
     have ho7 := ho6.no hb12
     obtain rfl := vbool_eq hv12
     refine lw_on Z Z Z Z Z Z (ow_not Z Z (lw_op Z Z Z (ow_pickF Z Z Z (lw_nil (ew_then (cw_false Z (cw_skip (ew_then (cw_seq (cw_region (lw_op Z Z Z (ow_assign Z Z (lw_nil (ew_then (cw_seq (cw_region (lw_op Z Z Z (ow_loadOwnA Z Z Z ho7 (Tryd.isAgg48 _) (Tryd.sizeOf48 _) Z (lw_op Z Z Z (ow_move Z Z ?_))))))))))))))))))))
     replace h := bind_some h
     obtain ⟨x8, hx8, h⟩ := h
     refine lw_op Z Z Z (ow_call Z Z Tryd.call27 (we_laws_markBox (fun b e => Nat.lt_of_lt_of_le e.2 hs10) hw23 hx8) fun v13 w14 hv13 => ?_)
     obtain ⟨rfl, hw25, hb13⟩ := hv13
     have hl14 := Le.reset (hl12.trans hl13) hb13 (fun b h => Nat.le_trans hs3 h.1)
     have hC14 := Cx.reset hC4 hC13 hb13 (fun b h => Nat.le_trans hC5.bx.size h.1) (Nat.le_trans (hl12.trans hl13).size hb13.size)
     have ho8 := ho7.go hb13 hy2
     have hw26 := VRep.mono (Le.sub _ (show ∀ b, M b → NotY (YB (fun b => w5.heap.size ≤ b) w6) b from fun b h1 h2 => Nat.lt_irrefl _ (Nat.lt_of_lt_of_le (hC4.old b h1) (Nat.le_trans hs3 h2.1)))) (Fg.vrep fgSSS (sidesS hw25))
     refine lw_op Z Z Z (ow_assign Z Z (lw_nil (ew_then (cw_seq (cw_region (lw_op Z Z Z (ow_assign Z Z (lw_nil (ew_then (cw_seq (cw_region (lw_op Z Z Z (ow_loadOwnA Z Z Z ho8 (Tryd.isAgg48 _) (Tryd.sizeOf48 _) Z ?_)))))))))))))
     have hw27 : VRep RBox w14 M ({ Sides := x8.2.Sides } : Box) (.agg #[(.slice A1 x4.Sides.length c1)]) := shut_Box hw26
     refine lw_op Z Z Z (ow_move Z Z ?_)
     replace h := bind_some h
     obtain ⟨x9, hx9, h⟩ := h
     have lz7 := ((((hl1.trans hl2).trans hl3).trans hl4).trans hl14)
     refine lw_op Z Z Z (ow_call Z Z Tryd.call32 (w_laws_heldBox (hG.mono lz7) hC14.old hw27 hx9) fun v14 w15 hv14 => ?_)
     obtain ⟨hv14, hb14⟩ := hv14
     have hl15 := Le.no M hb14
     have hC15 := hC14.no hb14
     have ho9 := ho8.no hb14
     obtain rfl := vint_eq hv14
     refine lw_op Z Z Z (ow_assign Z Z (lw_nil (ew_then (cw_seq (cw_seq (cw_region (lw_op Z Z Z (ow_move Z Z (lw_op Z Z Z (ow_lss Z Z Z fun bb3 hbb3 => lw_nil (ew_then ?_)))))))))))
     replace h := cond_some h
     rcases h with ⟨hc5, h⟩ | ⟨hc5, h⟩
     ·
      obtain rfl := hbb3.trans hc5
      refine cw_true Z (cw_seq (cw_region (lw_op Z Z Z (ow_assign Z Z (lw_nil (ew_then (cw_ret (ew_thenR ?_))))))))
      obtain rfl := sj h
      exact ew_ret (res1 Z (.tmp Z)) ⟨_, Z, ((vbool _)), hC15.bx⟩
     ·
      obtain rfl := hbb3.trans hc5
      refine cw_false Z (cw_skip (ew_then (cw_seq (cw_seq (cw_region (lw_op Z Z Z (ow_move Z Z (lw_op Z Z Z (ow_move Z Z (lw_op Z Z Z (ow_neqI Z Z Z fun bb4 hbb4 => lw_nil (ew_then ?_))))))))))))
      replace h := cond_some h
      rcases h with ⟨hc6, h⟩ | ⟨hc6, h⟩
      ·
       obtain rfl := hbb4.trans hc6
       refine cw_true Z (cw_seq (cw_region (lw_op Z Z Z (ow_assign Z Z (lw_nil (ew_then (cw_ret (ew_thenR ?_))))))))
       obtain rfl := sj h
       exact ew_ret (res1 Z (.tmp Z)) ⟨_, Z, ((vbool _)), hC15.bx⟩
      ·
       obtain rfl := hbb4.trans hc6
       refine cw_false Z (cw_skip (ew_then (cw_seq (cw_region (lw_op Z Z Z (ow_move Z Z (lw_op Z Z Z (ow_call Z Z Tryd.call35 (wu_laws_toTestS (hG.mono (lz7.trans hl15)) hC15.old (Y := (fun b => w15.heap.size ≤ b)) (fun _ hb => hb) (VRep.mono (lz7.trans hl15) h0) hx2) fun v15 w16 hv15 => ?_))))))))
       obtain ⟨hv15, hb15⟩ := hv15
       have hl16 := Le.no M hb15
       have hC16 := hC15.no hb15
       have ho10 := ho9.no hb15
       have hw28 := Fg.vrep (Fg.slice (Fg.refl RTest)) hv15
       have lz8 := ((lz7.trans hl15).trans hl16)
       refine lw_op Z Z Z (ow_call Z Z Tryd.call36 (wt_impl_TestsBox (hG.mono lz8) hC16.old (Y := (fun b => w16.heap.size ≤ b)) (fun _ hb => hb) hw28 hx4) fun v16 w17 hv16 => ?_)
       obtain ⟨hv16, hb16⟩ := hv16
       have hl17 := Le.no M hb16
       have hC17 := hC16.no hb16
       have ho11 := ho10.no hb16
       have hw29 := Fg.vrep (Fg.in_ fgBoxS) hv16
       refine lw_allocStore (R := RBox) Z Z Z Z Z Z Z Tryd.zeroValue48 Tryd.sizeOf48 Z Z Z (by simp) hw29 hC17 fun p2 w18 hp2 hb17 hl18 hC18 => ?_
       have ho12 := ho11.no hb17
       refine lw_nil (ew_then (cw_seq (cw_seq (cw_region (lw_op Z Z Z (ow_load (R := RBox) Z Z hp2 (Tryd.sizeOf48 _) (Tryd.isAgg48 _) fun v17 hv17 => ?_))))))
       have lz9 := ((((hl14.trans hl15).trans hl16).trans hl17).trans hl18)
       refine lw_op Z Z Z (ow_load (R := RBox) Z Z (ARep.mono lz9 hp1) (Tryd.sizeOf48 _) (Tryd.isAgg48 _) fun v18 hv18 => ?_)
       replace h := bind_some h
       obtain ⟨x10, hx10, h⟩ := h
       have lz10 := ((lz8.trans hl17).trans hl18)
       refine lw_op Z Z Z (ow_call Z Z Tryd.call26 (w_laws_eqBox (hG.mono lz10) hC18.old hv17 hv18 hx10) fun v19 w19 hv19 => ?_)
       obtain ⟨hv19, hb18⟩ := hv19
       have hl19 := Le.no M hb18
       have hC19 := hC18.no hb18
       have ho13 := ho12.no hb18
       obtain rfl := vbool_eq hv19
       refine lw_op Z Z Z (ow_not Z Z (lw_nil (ew_then ?_)))
       replace h := cond_some h
       rcases h with ⟨hc7, h⟩ | ⟨hc7, h⟩
       ·
        subst hc7
        refine cw_false Z (cw_skip (ew_then (cw_seq (cw_region (lw_op Z Z Z (ow_assign Z Z (lw_nil (ew_then (cw_seq (cw_region (lw_op Z Z Z (ow_loadOwnA Z Z Z ho13 (Tryd.isAgg48 _) (Tryd.sizeOf48 _) Z ?_))))))))))))
        have lz11 := ((((hl15.trans hl16).trans hl17).trans hl18).trans hl19)
        have hw30 : VRep RBox w19 M ({ Sides := x8.2.Sides } : Box) (.agg #[(.slice A1 x4.Sides.length c1)]) := shut_Box (VRep.mono lz11 hw26)
        refine lw_op Z Z Z (ow_move Z Z (lw_op Z Z Z (ow_call Z Z Tryd.call32 (w_laws_heldBox (hG.mono (lz10.trans hl19)) hC19.old hw30 hx9) fun v20 w20 hv20 => ?_)))
        obtain ⟨hv20, hb19⟩ := hv20
        have hC20 := hC19.no hb19
        obtain rfl := vint_eq hv20
        refine lw_op Z Z Z (ow_assign Z Z (lw_nil (ew_then (cw_seq (cw_seq (cw_region (lw_op Z Z Z (ow_move Z Z (lw_op Z Z Z (ow_lss Z Z Z fun bb5 hbb5 => ?_))))))))))
        obtain rfl := hbb5.trans hc5
        refine lw_nil (ew_then (cw_false Z (cw_skip (ew_then (cw_seq (cw_seq (cw_region (lw_op Z Z Z (ow_move Z Z (lw_op Z Z Z (ow_move Z Z (lw_op Z Z Z (ow_neqI Z Z Z fun bb6 hbb6 => ?_)))))))))))))
        obtain rfl := hbb6.trans hc6
        refine lw_nil (ew_then (cw_false Z (cw_skip (ew_then (cw_seq (cw_region (lw_op Z Z Z (ow_assign Z Z (lw_nil (ew_then (cw_ret ?_)))))))))))
        obtain rfl := sj h
        exact ew_ret (res1 Z (.tmp Z)) ⟨_, Z, ((vbool _)), hC20.bx⟩
       ·
        subst hc7
        refine cw_true Z (cw_seq (cw_region (lw_op Z Z Z (ow_assign Z Z (lw_nil (ew_then (cw_ret (ew_thenR ?_))))))))
        obtain rfl := sj h
        exact ew_ret (res1 Z (.tmp Z)) ⟨_, Z, ((vbool _)), hC19.bx⟩
   ·
    subst hc3
    refine cw_true Z (cw_seq (cw_region (lw_op Z Z Z (ow_assign Z Z (lw_nil (ew_then (cw_ret (ew_thenR ?_))))))))
    obtain rfl := sj h
    exact ew_ret (res1 Z (.tmp Z)) ⟨_, Z, ((vbool _)), hC11.bx⟩
  ·
   subst hc2
   refine cw_true Z (cw_seq (cw_region (lw_op Z Z Z (ow_assign Z Z (lw_nil (ew_then (cw_ret (ew_thenR ?_))))))))
   obtain rfl := sj h
   exact ew_ret (res1 Z (.tmp Z)) ⟨_, Z, ((vbool _)), hC9.bx⟩


end Go.PF
