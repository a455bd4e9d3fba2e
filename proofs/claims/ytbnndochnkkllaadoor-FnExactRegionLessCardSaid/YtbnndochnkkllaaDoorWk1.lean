/- The walks; no condition. -/
import Derived.Test.YtbnndochnkkllaaDoorProg
import Derived.Test.YtbnndochnkkllaaDoorWk0
import Derived.Test.YtbnndochnkkllaaDoorPFSeq
import Derived.Test.YtbnndochnkkllaaDoorPFMark
import Derived.Test.YtbnndochnkkllaaDoorPFWild
import Derived.Test.YtbnndochnkkllaaDoorPFTree
set_option maxRecDepth 100000
set_option maxHeartbeats 4000000
namespace Go.PF
open Go Go.RowKit Go.Proofs

theorem w_spec_l11Less {w : World} {M : Nat → Prop} (hG : ARep (RArr 4 RShape) w M shapes ⟨0, 0, none⟩) (hO : ∀ b, M b → b < w.heap.size) {v0p : Value} {a_b : Box} (h0 : VRep RBox w M a_b v0p) {v1p : Value} {a_list : List Box} (h1 : VRep (RSlice RBox) w M a_list v1p) {r : (List Box) × Bool} (h : F.spec_l11Less a_b a_list = some r) :
  Calls Tryd.prog 128 [v0p, v1p].toArray w fun e w' => ∃ v, e = .returned v ∧ (∃ u0 u1, v = .tuple #[u0, u1] ∧ VRep (RSlice RBox) w' M r.1 u0 ∧ VRep RBool w' M r.2 u1) ∧ BX No w w' := by
 obtain ⟨i48, hi48, hz48, hs48, hy48⟩ := info48
 have hC : Cx No w M w M := Cx.start hO (fun _ e => e.elim)
 refine walk (N := 48) Tryd.func128 Z Tryd.ntmps128 Z (cw_seq (cw_region (lw_op Z Z Z (ow_box (R := RBox) Z Z h0 hC fun p1 w1 hp1 hb1 hl1 hC1 => lw_op Z Z Z (ow_assign Z Z (lw_op Z Z Z (ow_assign Z Z (lw_nil (ew_then (cw_seq (cw_region (lw_op Z Z Z (ow_buildSlice0 (R := RBox) (e := 48) Z (by kernel_rfl) hC1 fun p2 w2 M1 hr1 hb2 hl2 hC2 hM1 hat1 => lw_op Z Z Z (ow_assign Z Z (lw_nil (ew_then (cw_seq (cw_seq (cw_region (lw_op Z Z Z (ow_load (R := RBox) Z Z (ARep.mono hl2 hp1) (Tryd.sizeOf48 _) (Tryd.isAgg48 _) fun v1 hv1 => ?_)))))))))))))))))))))
 replace h := bind_some h
 obtain ⟨x1, hx1, h⟩ := h
 refine lw_op Z Z Z (ow_call Z Z Tryd.call87 (w_spec_l10Empty (hG.mono (hl1.trans hl2)) hC2.old hv1 hx1) fun v2 w3 hv2 => ?_)
 obtain ⟨hv2, hb3⟩ := hv2
 have hl3 := Le.no M1 hb3
 have hC3 := hC2.no hb3
 have hr2 := hr1.no hb3
 obtain rfl := vbool_eq hv2
 refine lw_op Z Z Z (ow_not Z Z (lw_nil (ew_then ?_)))
 replace h := cond_some h
 rcases h with ⟨hc1, h⟩ | ⟨hc1, h⟩
 ·
  subst hc1
  refine cw_false Z (cw_skip (ew_then (cw_seq (cw_seq (cw_region (lw_op Z Z Z (ow_assign Z Z (lw_nil (ew_then ?_)))))))))
  replace h := bind_some h
  obtain ⟨lr1, hlr1, h⟩ := h
  refine cw_for hlr1 (fun s a w' => ∃ (M' : Nat → Prop) (v0c : Value), Fits 48 [(1, v1p), (6, v0c), (7, (Zv s.2))] a ∧ Le w3 M1 w' M' ∧ Cx No w M w' M' ∧ VRep (RSlice RBox) w' M' s.1 v0c) ?_ ?_ ?_
  · exact fun a ha => ⟨M1, (.slice (some p2) 0 0), ha.sub ⟨Z, Z, Z, Zt⟩, Le.refl _ _, hC3, vslice_nil⟩
  ·
   rintro ⟨y1, k1⟩ a w4 sr1 ⟨M2, v3, hF1, hl4, hC4, hw1⟩ hb4 hR1
   refine cw_at (E := [(1, v1p), (6, v3), (7, (Zv k1))]) hF1 (cw_seq (cw_seq (cw_region (lw_op Z Z Z (ow_move Z Z (lw_op Z Z Z (ow_move Z Z ?_)))))))
   have lz1 := (((hl1.trans hl2).trans hl3).trans hl4)
   refine lw_op Z Z Z (ow_len Z Z (VRep.mono lz1 h1) Tryd.underlying64 Z (lw_op Z Z Z (ow_lss Z Z Z fun bb1 hbb1 => lw_nil (ew_then ?_))))
   replace hb4 := cond_some hb4
   rcases hb4 with ⟨hc2, hb4⟩ | ⟨hc2, hb4⟩
   ·
    obtain rfl := hbb1.trans hc2
    refine cw_true Z (cw_skip (ew_then (cw_seq (cw_block (cw_seq (cw_region (lw_op Z Z Z (ow_buildSlice0 (R := RBox) (e := 48) Z (by kernel_rfl) hC4 fun p3 w5 M3 hr3 hb5 hl5 hC5 hM2 hat2 => lw_op Z Z Z (ow_assign Z Z (lw_nil (ew_then (cw_seq (cw_seq (cw_region (lw_op Z Z Z (ow_assign Z Z (lw_nil (ew_then ?_))))))))))))))))))
    replace hb4 := bind_some hb4
    obtain ⟨lr2, hlr2, hb4⟩ := hb4
    refine cw_for hlr2 (fun s a w' => ∃ (M' : Nat → Prop) (v0c : Value), Fits 48 [(1, v1p), (6, v3), (7, (Zv k1)), (8, v0c), (9, (Zv s.2))] a ∧ Le w5 M3 w' M' ∧ Cx No w M w' M' ∧ OwnRow RBox w.heap.size 48 w' M' s.1 v0c) ?_ ?_ ?_
    · exact fun a ha => ⟨M3, (.slice (some p3) 0 0), ha.sub ⟨Z, Z, Z, Z, Z, Zt⟩, Le.refl _ _, hC5, hr3⟩
    ·
     rintro ⟨y2, k2⟩ a w6 sr2 ⟨M4, v5, hF2, hl6, hC6, hw2⟩ hb6 hR2
     refine cw_at (E := [(1, v1p), (6, v3), (7, (Zv k1)), (8, v5), (9, (Zv k2))]) hF2 (cw_seq (cw_seq (cw_region (lw_op Z Z Z (ow_move Z Z (lw_op Z Z Z (ow_move Z Z (lw_op Z Z Z (ow_len Z Z (VRep.mono (hl5.trans hl6) hw1) Tryd.underlying64 Z (lw_op Z Z Z (ow_lss Z Z Z fun bb2 hbb2 => lw_nil (ew_then ?_))))))))))))
     replace hb6 := cond_some hb6
     rcases hb6 with ⟨hc3, hb6⟩ | ⟨hc3, hb6⟩
     ·
      obtain rfl := hbb2.trans hc3
      refine cw_true Z (cw_skip (ew_then (cw_seq (cw_block ?_))))
      replace hb6 := bind_some hb6
      obtain ⟨x2, hx2, hb6⟩ := hb6
      replace hb6 := bind_some hb6
      obtain ⟨x3, hx3, hb6⟩ := hb6
      replace hb6 := bind_some hb6
      obtain ⟨x4, hx4, hb6⟩ := hb6
      have lz2 := ((lz1.trans hl5).trans hl6)
      have lz3 := (hl5.trans hl6)
      refine cw_sub (E' := [(1, v1p), (6, v3), (7, (Zv k1)), (8, v5), (9, (Zv k2))]) ⟨Z, Z, Z, Z, Z, Zt⟩ (cw_drawQ 10 [PEq v5, PV (RSlice RBox) M4 y1, PEq (Zv k2), PA RBox M4 x2, PV RBox M4 x2, PV (RSlice RBox) M4 a_list, PEq (Zv k1), PA RBox M4 x3, PV RBox M4 x3, PV (RSlice RBox) M4 x4] (by kernel_rfl) Z (by kernel_rfl) ⟨Zq, PV.mono _ _ _, Zq, PA.mono _ _ _, PV.mono _ _ _, PV.mono _ _ _, Zq, PA.mono _ _ _, PV.mono _ _ _, PV.mono _ _ _, Zt⟩ ⟨?_, ?_, ?_, ?_, ?_, ?_, ?_, ?_, ?_, ?_, Zt⟩ ?_)
      · exact fun w8 D hS1 hd1 => dg_sub (E' := [(8, v5)]) ⟨Z, Zt⟩ (dg_plain Z (ow_move Z Z Zb))
      ·
       intro w9 D hS2 hd2
       have hl9 := Le.no M4 hS2
       exact dg_sub (E' := [(6, v3)]) ⟨Z, Zt⟩ (dg_plain Z (ow_move Z Z ⟨BX.refl _ _, (VRep.mono (lz3.trans hl9) hw1)⟩))
      · exact fun w10 D hS3 hd3 => dg_sub (E' := [(9, (Zv k2))]) ⟨Z, Zt⟩ (dg_plain Z (ow_move Z Z Zb))
      ·
       intro w11 D hS4 hd4
       have d1 : PV (RSlice RBox) M4 y1 (D 1) w11 := dpA hd4 1 Z
       generalize hq1 : (D 1) = v10 at d1
       exact dg_sub (E' := [(32, v10), (33, (Zv k2))]) ⟨congrArg some hq1, dpE hd4 2 Z Z, Zt⟩ (dg_plain Z (ow_indexSlice (R := RBox) Z Z Z d1 Tryd.underlying64 (Tryd.sizeOf48 _) hx2 fun p6 hp6 => ⟨BX.refl _ _, ⟨_, Z, hp6⟩⟩))
      ·
       intro w12 D hS5 hd5
       have d3 : PA RBox M4 x2 (D 3) w12 := dpA hd5 3 Z
       obtain ⟨p7, e1, ha1⟩ := d3
       exact dg_sub (E' := [(34, (.pointer (some p7)))]) ⟨congrArg some e1, Zt⟩ (dg_plain Z (ow_load (R := RBox) Z Z ha1 (Tryd.sizeOf48 _) (Tryd.isAgg48 _) fun v11 hv11 => ⟨BX.refl _ _, hv11⟩))
      ·
       intro w13 D hS6 hd6
       have hl13 := Le.no M4 hS6
       exact dg_sub (E' := [(1, v1p)]) ⟨Z, Zt⟩ (dg_plain Z (ow_move Z Z ⟨BX.refl _ _, (VRep.mono (lz2.trans hl13) h1)⟩))
      · exact fun w14 D hS7 hd7 => dg_sub (E' := [(7, (Zv k1))]) ⟨Z, Zt⟩ (dg_plain Z (ow_move Z Z Zb))
      ·
       intro w15 D hS8 hd8
       have d4 : PV (RSlice RBox) M4 a_list (D 5) w15 := dpA hd8 5 Z
       generalize hq2 : (D 5) = v12 at d4
       exact dg_sub (E' := [(36, v12), (37, (Zv k1))]) ⟨congrArg some hq2, dpE hd8 6 Z Z, Zt⟩ (dg_plain Z (ow_indexSlice (R := RBox) Z Z Z d4 Tryd.underlying64 (Tryd.sizeOf48 _) hx3 fun p8 hp8 => ⟨BX.refl _ _, ⟨_, Z, hp8⟩⟩))
      ·
       intro w16 D hS9 hd9
       have d6 : PA RBox M4 x3 (D 7) w16 := dpA hd9 7 Z
       obtain ⟨p9, e2, ha2⟩ := d6
       exact dg_sub (E' := [(38, (.pointer (some p9)))]) ⟨congrArg some e2, Zt⟩ (dg_plain Z (ow_load (R := RBox) Z Z ha2 (Tryd.sizeOf48 _) (Tryd.isAgg48 _) fun v13 hv13 => ⟨BX.refl _ _, hv13⟩))
      ·
       intro w17 D hS10 hd10
       have hl17 := Le.no M4 hS10
       have hC17 := hC6.no hS10
       have d7 : PV RBox M4 x2 (D 4) w17 := dpA hd10 4 Z
       have d8 : PV RBox M4 x3 (D 8) w17 := dpA hd10 8 Z
       generalize hq3 : (D 4) = v14 at d7
       generalize hq4 : (D 8) = v15 at d8
       refine dg_sub (E' := [(35, v14), (39, v15)]) ⟨congrArg some hq3, congrArg some hq4, Zt⟩ (dg_plain Z (ow_call Z Z Tryd.call124 (w_spec_l11Cut (hG.mono (lz2.trans hl17)) hC17.old d7 d8 hx4) fun v16 w18 hv16 => ?_))
       obtain ⟨hv16, hb8⟩ := hv16
       exact ⟨hb8, hv16⟩
      ·
       intro w19 D hS11 hd11
       have d18 : PV (RSlice RBox) M4 x4 (D 9) w19 := dpA hd11 9 Z
       have hl19 := Le.no M4 hS11
       have hC19 := hC6.no hS11
       have hr16 := hw2.no hS11
       generalize hq5 : (D 9) = v17 at d18
       refine lw_sub (E' := [(31, v5), (40, v17), (1, v1p), (6, v3), (7, (Zv k1)), (8, v5), (9, (Zv k2))]) ⟨dpE hd11 0 Z Z, congrArg some hq5, Z, Z, Z, Z, Z, Zt⟩ ?_
       replace hb6 := bind_some hb6
       obtain ⟨z1, hz1, hb6⟩ := hb6
       refine lw_op Z Z Z (ow_append (R := RBox) Z Z Z Z Tryd.underlying64 hi48 hz48 hs48 hy48 Z Z Z Z hr16 d18 hz1 hC19 fun v18 w20 M5 hr17 hb9 hl20 hC20 hM3 hat3 => lw_op Z Z Z (ow_assign Z Z (lw_nil (ew_blockN (ew_then (cw_region (lw_op Z Z Z (ow_move Z Z (lw_op Z Z Z (ow_add Z Z Z (lw_op Z Z Z (ow_assign Z Z (lw_nil ?_)))))))))))))
       have lz4 := ((hl6.trans hl19).trans hl20)
       exact ew_nxt (z1, (W (k2 + 1))) hb6 fun a ha => ⟨M5, v18, (ha.sub ⟨Z, Z, Z, Z, Z, Zt⟩), lz4, hC20, hr17⟩
     ·
      obtain rfl := hbb2.trans hc3
      exact cw_false Z (cw_exit (ew_thenX (ew_thenX (ew_blockX (ew_brk (y2, k2) hb6 fun a ha => ⟨M4, v5, (ha.sub ⟨Z, Z, Z, Z, Z, Zt⟩), hl6, hC6, hw2⟩)))))
    ·
     rintro ⟨y3, k3⟩ a w21 hlr3 ⟨M6, v19, hF3, hl21, hC21, hw3⟩
     subst hlr3
     refine ew_at (E := [(1, v1p), (6, v3), (7, (Zv k1)), (8, v19), (9, (Zv k3))]) hF3 (ew_then (cw_seq (cw_seq (cw_region (lw_op Z Z Z (ow_move Z Z ?_))))))
     have hw4 := hw3.freezeDel
     have hC22 := hw3.cxDel hC21 (fun _ e => e.elim) hO
     have hl22 := Le.del w21 M6 v19
     replace hb4 := bind_some hb4
     obtain ⟨x5, hx5, hb4⟩ := hb4
     have lz5 := (((lz1.trans hl5).trans hl21).trans hl22)
     refine lw_op Z Z Z (ow_call Z Z Tryd.call127 (w_spec_RegionValid (hG.mono lz5) hC22.old hw4 hx5) fun v21 w22 hv21 => ?_)
     obtain ⟨hv21, hb10⟩ := hv21
     have hl23 := Le.no (Del v19 M6) hb10
     have hC23 := hC22.no hb10
     obtain rfl := vbool_eq hv21
     refine lw_op Z Z Z (ow_not Z Z (lw_nil (ew_then ?_)))
     replace hb4 := cond_some hb4
     rcases hb4 with ⟨hc4, hb4⟩ | ⟨hc4, hb4⟩
     ·
      subst hc4
      refine cw_false Z (cw_skip (ew_then (cw_region (lw_op Z Z Z (ow_move Z Z (lw_op Z Z Z (ow_assign Z Z (lw_nil (ew_blockN (ew_then (cw_region (lw_op Z Z Z (ow_move Z Z (lw_op Z Z Z (ow_add Z Z Z (lw_op Z Z Z (ow_assign Z Z (lw_nil ?_))))))))))))))))))
      have lz6 := ((((hl4.trans hl5).trans hl21).trans hl22).trans hl23)
      exact ew_nxt (y3, (W (k1 + 1))) hb4 fun a ha => ⟨(Del v19 M6), v19, (ha.sub ⟨Z, Z, Z, Zt⟩), lz6, hC23, (VRep.mono hl23 hw4)⟩
     ·
      subst hc4
      refine cw_true Z (cw_seq (cw_region (lw_op Z Z Z (ow_buildSlice0I (R := RBox) (e := 48) Z (by kernel_rfl) hC23 fun p10 w23 hw5 hb11 hl24 hC24 => lw_op Z Z Z (ow_assign Z Z (lw_op Z Z Z (ow_assign Z Z (lw_nil (ew_then (cw_ret (ew_thenR (ew_blockR (ew_thenR (ew_thenR (ew_blockR (ew_brkR (ew_thenR ?_)))))))))))))))))
      have e3 := hR1 _ (sj hb4).symm
      subst e3
      obtain rfl := sj h
      exact ew_ret (res2 Z (.tmp Z) (.tmp Z)) ⟨_, Z, ⟨_, _, Z, (VRep.mono hC24.back hw5), ((vbool _))⟩, hC24.bx⟩
   ·
    obtain rfl := hbb1.trans hc2
    exact cw_false Z (cw_exit (ew_thenX (ew_thenX (ew_blockX (ew_brk (y1, k1) hb4 fun a ha => ⟨M2, v3, (ha.sub ⟨Z, Z, Z, Zt⟩), hl4, hC4, hw1⟩)))))
  ·
   rintro ⟨y4, k4⟩ a w24 hlr4 ⟨M7, v22, hF4, hl25, hC25, hw6⟩
   subst hlr4
   refine ew_at (E := [(1, v1p), (6, v22), (7, (Zv k4))]) hF4 (ew_then (cw_seq (cw_region (lw_op Z Z Z (ow_move Z Z (lw_op Z Z Z (ow_assign Z Z (lw_op Z Z Z (ow_assign Z Z (lw_nil (ew_then (cw_ret ?_))))))))))))
   obtain rfl := sj h
   exact ew_ret (res2 Z (.tmp Z) (.tmp Z)) ⟨_, Z, ⟨_, _, Z, (VRep.mono hC25.back hw6), ((vbool _))⟩, hC25.bx⟩
 ·
  subst hc1
  refine cw_true Z (cw_region (lw_op Z Z Z (ow_move Z Z (lw_op Z Z Z (ow_load (R := RBox) Z Z (ARep.mono (hl2.trans hl3) hp1) (Tryd.sizeOf48 _) (Tryd.isAgg48 _) fun v24 hv24 => ?_)))))
  obtain ⟨A1, c1, rfl, hw7⟩ := open_Box hv24
  refine lw_op Z Z Z (ow_buildSlice (R := RBox) (xs := [a_b]) (cs := #[(.slice A1 a_b.Sides.length c1)]) (e := 48) Z Z (by kernel_rfl) Z Z ⟨_, _, Z, hv24.cells, Z⟩ hC3 fun p11 w25 hw8 hb12 hl26 hC26 => ?_)
  have hr18 := hr2.no hb12
  replace h := bind_some h
  obtain ⟨z2, hz2, h⟩ := h
  refine lw_op Z Z Z (ow_append (R := RBox) Z Z Z Z Tryd.underlying64 hi48 hz48 hs48 hy48 Z Z Z Z hr18 hw8 hz2 hC26 fun v25 w26 M8 hr19 hb13 hl27 hC27 hM4 hat4 => lw_op Z Z Z (ow_assign Z Z (lw_nil (ew_then (cw_seq (cw_seq (cw_region (lw_op Z Z Z (ow_assign Z Z (lw_nil (ew_then ?_)))))))))))
  have hw9 := hr19.freezeDel
  have hC28 := hr19.cxDel hC27 (fun _ e => e.elim) hO
  have hl28 := Le.del w26 M8 v25
  replace h := bind_some h
  obtain ⟨lr3, hlr5, h⟩ := h
  refine cw_for hlr5 (fun s a w' => ∃ (M' : Nat → Prop) (v0c : Value), Fits 48 [(1, v1p), (6, v0c), (7, (Zv s.2))] a ∧ Le w26 (Del v25 M8) w' M' ∧ Cx No w M w' M' ∧ VRep (RSlice RBox) w' M' s.1 v0c) ?_ ?_ ?_
  · exact fun a ha => ⟨(Del v25 M8), v25, ha.sub ⟨Z, Z, Z, Zt⟩, Le.refl _ _, hC28, hw9⟩
  ·
   rintro ⟨y5, k5⟩ a w27 sr3 ⟨M9, v26, hF5, hl29, hC29, hw10⟩ hb14 hR3
   refine cw_at (E := [(1, v1p), (6, v26), (7, (Zv k5))]) hF5 (cw_seq (cw_seq (cw_region (lw_op Z Z Z (ow_move Z Z (lw_op Z Z Z (ow_move Z Z ?_)))))))
   have lz7 := ((((((hl1.trans hl2).trans hl3).trans hl26).trans hl27).trans hl28).trans hl29)
   refine lw_op Z Z Z (ow_len Z Z (VRep.mono lz7 h1) Tryd.underlying64 Z (lw_op Z Z Z (ow_lss Z Z Z fun bb3 hbb3 => lw_nil (ew_then ?_))))
   replace hb14 := cond_some hb14
   rcases hb14 with ⟨hc5, hb14⟩ | ⟨hc5, hb14⟩
   ·
    obtain rfl := hbb3.trans hc5
    refine cw_true Z (cw_skip (ew_then (cw_seq (cw_block (cw_seq (cw_region (lw_op Z Z Z (ow_buildSlice0 (R := RBox) (e := 48) Z (by kernel_rfl) hC29 fun p12 w28 M10 hr20 hb15 hl30 hC30 hM5 hat5 => lw_op Z Z Z (ow_assign Z Z (lw_nil (ew_then (cw_seq (cw_seq (cw_region (lw_op Z Z Z (ow_assign Z Z (lw_nil (ew_then ?_))))))))))))))))))
    replace hb14 := bind_some hb14
    obtain ⟨lr4, hlr6, hb14⟩ := hb14
    refine cw_for hlr6 (fun s a w' => ∃ (M' : Nat → Prop) (v0c : Value), Fits 48 [(1, v1p), (6, v26), (7, (Zv k5)), (8, v0c), (9, (Zv s.2))] a ∧ Le w28 M10 w' M' ∧ Cx No w M w' M' ∧ OwnRow RBox w.heap.size 48 w' M' s.1 v0c) ?_ ?_ ?_
    · exact fun a ha => ⟨M10, (.slice (some p12) 0 0), ha.sub ⟨Z, Z, Z, Z, Z, Zt⟩, Le.refl _ _, hC30, hr20⟩
    ·
     rintro ⟨y6, k6⟩ a w29 sr4 ⟨M11, v28, hF6, hl31, hC31, hw11⟩ hb16 hR4
     refine cw_at (E := [(1, v1p), (6, v26), (7, (Zv k5)), (8, v28), (9, (Zv k6))]) hF6 (cw_seq (cw_seq (cw_region (lw_op Z Z Z (ow_move Z Z (lw_op Z Z Z (ow_move Z Z (lw_op Z Z Z (ow_len Z Z (VRep.mono (hl30.trans hl31) hw10) Tryd.underlying64 Z (lw_op Z Z Z (ow_lss Z Z Z fun bb4 hbb4 => lw_nil (ew_then ?_))))))))))))
     replace hb16 := cond_some hb16
     rcases hb16 with ⟨hc6, hb16⟩ | ⟨hc6, hb16⟩
     ·
      obtain rfl := hbb4.trans hc6
      refine cw_true Z (cw_skip (ew_then (cw_seq (cw_block ?_))))
      replace hb16 := bind_some hb16
      obtain ⟨x6, hx6, hb16⟩ := hb16
      replace hb16 := bind_some hb16
      obtain ⟨x7, hx7, hb16⟩ := hb16
      replace hb16 := bind_some hb16
      obtain ⟨x8, hx8, hb16⟩ := hb16
      have lz8 := ((lz7.trans hl30).trans hl31)
      have lz9 := (hl30.trans hl31)
      refine cw_sub (E' := [(1, v1p), (6, v26), (7, (Zv k5)), (8, v28), (9, (Zv k6))]) ⟨Z, Z, Z, Z, Z, Zt⟩ (cw_drawQ 10 [PEq v28, PV (RSlice RBox) M11 y5, PEq (Zv k6), PA RBox M11 x6, PV RBox M11 x6, PV (RSlice RBox) M11 a_list, PEq (Zv k5), PA RBox M11 x7, PV RBox M11 x7, PV (RSlice RBox) M11 x8] (by kernel_rfl) Z (by kernel_rfl) ⟨Zq, PV.mono _ _ _, Zq, PA.mono _ _ _, PV.mono _ _ _, PV.mono _ _ _, Zq, PA.mono _ _ _, PV.mono _ _ _, PV.mono _ _ _, Zt⟩ ⟨?_, ?_, ?_, ?_, ?_, ?_, ?_, ?_, ?_, ?_, Zt⟩ ?_)
      · exact fun w31 D hS12 hd12 => dg_sub (E' := [(8, v28)]) ⟨Z, Zt⟩ (dg_plain Z (ow_move Z Z Zb))
      ·
       intro w32 D hS13 hd13
       have hl34 := Le.no M11 hS13
       exact dg_sub (E' := [(6, v26)]) ⟨Z, Zt⟩ (dg_plain Z (ow_move Z Z ⟨BX.refl _ _, (VRep.mono (lz9.trans hl34) hw10)⟩))
      · exact fun w33 D hS14 hd14 => dg_sub (E' := [(9, (Zv k6))]) ⟨Z, Zt⟩ (dg_plain Z (ow_move Z Z Zb))
      ·
       intro w34 D hS15 hd15
       have d19 : PV (RSlice RBox) M11 y5 (D 1) w34 := dpA hd15 1 Z
       generalize hq6 : (D 1) = v33 at d19
       exact dg_sub (E' := [(32, v33), (33, (Zv k6))]) ⟨congrArg some hq6, dpE hd15 2 Z Z, Zt⟩ (dg_plain Z (ow_indexSlice (R := RBox) Z Z Z d19 Tryd.underlying64 (Tryd.sizeOf48 _) hx6 fun p15 hp15 => ⟨BX.refl _ _, ⟨_, Z, hp15⟩⟩))
      ·
       intro w35 D hS16 hd16
       have d21 : PA RBox M11 x6 (D 3) w35 := dpA hd16 3 Z
       obtain ⟨p16, e4, ha3⟩ := d21
       exact dg_sub (E' := [(34, (.pointer (some p16)))]) ⟨congrArg some e4, Zt⟩ (dg_plain Z (ow_load (R := RBox) Z Z ha3 (Tryd.sizeOf48 _) (Tryd.isAgg48 _) fun v34 hv34 => ⟨BX.refl _ _, hv34⟩))
      ·
       intro w36 D hS17 hd17
       have hl38 := Le.no M11 hS17
       exact dg_sub (E' := [(1, v1p)]) ⟨Z, Zt⟩ (dg_plain Z (ow_move Z Z ⟨BX.refl _ _, (VRep.mono (lz8.trans hl38) h1)⟩))
      · exact fun w37 D hS18 hd18 => dg_sub (E' := [(7, (Zv k5))]) ⟨Z, Zt⟩ (dg_plain Z (ow_move Z Z Zb))
      ·
       intro w38 D hS19 hd19
       have d22 : PV (RSlice RBox) M11 a_list (D 5) w38 := dpA hd19 5 Z
       generalize hq7 : (D 5) = v35 at d22
       exact dg_sub (E' := [(36, v35), (37, (Zv k5))]) ⟨congrArg some hq7, dpE hd19 6 Z Z, Zt⟩ (dg_plain Z (ow_indexSlice (R := RBox) Z Z Z d22 Tryd.underlying64 (Tryd.sizeOf48 _) hx7 fun p17 hp17 => ⟨BX.refl _ _, ⟨_, Z, hp17⟩⟩))
      ·
       intro w39 D hS20 hd20
       have d24 : PA RBox M11 x7 (D 7) w39 := dpA hd20 7 Z
       obtain ⟨p18, e5, ha4⟩ := d24
       exact dg_sub (E' := [(38, (.pointer (some p18)))]) ⟨congrArg some e5, Zt⟩ (dg_plain Z (ow_load (R := RBox) Z Z ha4 (Tryd.sizeOf48 _) (Tryd.isAgg48 _) fun v36 hv36 => ⟨BX.refl _ _, hv36⟩))
      ·
       intro w40 D hS21 hd21
       have hl42 := Le.no M11 hS21
       have hC42 := hC31.no hS21
       have d25 : PV RBox M11 x6 (D 4) w40 := dpA hd21 4 Z
       have d26 : PV RBox M11 x7 (D 8) w40 := dpA hd21 8 Z
       generalize hq8 : (D 4) = v37 at d25
       generalize hq9 : (D 8) = v38 at d26
       refine dg_sub (E' := [(35, v37), (39, v38)]) ⟨congrArg some hq8, congrArg some hq9, Zt⟩ (dg_plain Z (ow_call Z Z Tryd.call124 (w_spec_l11Cut (hG.mono (lz8.trans hl42)) hC42.old d25 d26 hx8) fun v39 w41 hv39 => ?_))
       obtain ⟨hv39, hb18⟩ := hv39
       exact ⟨hb18, hv39⟩
      ·
       intro w42 D hS22 hd22
       have d36 : PV (RSlice RBox) M11 x8 (D 9) w42 := dpA hd22 9 Z
       have hl44 := Le.no M11 hS22
       have hC44 := hC31.no hS22
       have hr33 := hw11.no hS22
       generalize hq10 : (D 9) = v40 at d36
       refine lw_sub (E' := [(31, v28), (40, v40), (1, v1p), (6, v26), (7, (Zv k5)), (8, v28), (9, (Zv k6))]) ⟨dpE hd22 0 Z Z, congrArg some hq10, Z, Z, Z, Z, Z, Zt⟩ ?_
       replace hb16 := bind_some hb16
       obtain ⟨z3, hz3, hb16⟩ := hb16
       refine lw_op Z Z Z (ow_append (R := RBox) Z Z Z Z Tryd.underlying64 hi48 hz48 hs48 hy48 Z Z Z Z hr33 d36 hz3 hC44 fun v41 w43 M12 hr34 hb19 hl45 hC45 hM6 hat6 => lw_op Z Z Z (ow_assign Z Z (lw_nil (ew_blockN (ew_then (cw_region (lw_op Z Z Z (ow_move Z Z (lw_op Z Z Z (ow_add Z Z Z (lw_op Z Z Z (ow_assign Z Z (lw_nil ?_)))))))))))))
       have lz10 := ((hl31.trans hl44).trans hl45)
       exact ew_nxt (z3, (W (k6 + 1))) hb16 fun a ha => ⟨M12, v41, (ha.sub ⟨Z, Z, Z, Z, Z, Zt⟩), lz10, hC45, hr34⟩
     ·
      obtain rfl := hbb4.trans hc6
      exact cw_false Z (cw_exit (ew_thenX (ew_thenX (ew_blockX (ew_brk (y6, k6) hb16 fun a ha => ⟨M11, v28, (ha.sub ⟨Z, Z, Z, Z, Z, Zt⟩), hl31, hC31, hw11⟩)))))
    ·
     rintro ⟨y7, k7⟩ a w44 hlr7 ⟨M13, v42, hF7, hl46, hC46, hw12⟩
     subst hlr7
     refine ew_at (E := [(1, v1p), (6, v26), (7, (Zv k5)), (8, v42), (9, (Zv k7))]) hF7 (ew_then (cw_seq (cw_seq (cw_region (lw_op Z Z Z (ow_move Z Z ?_))))))
     have hw13 := hw12.freezeDel
     have hC47 := hw12.cxDel hC46 (fun _ e => e.elim) hO
     have hl47 := Le.del w44 M13 v42
     replace hb14 := bind_some hb14
     obtain ⟨x9, hx9, hb14⟩ := hb14
     have lz11 := (((lz7.trans hl30).trans hl46).trans hl47)
     refine lw_op Z Z Z (ow_call Z Z Tryd.call127 (w_spec_RegionValid (hG.mono lz11) hC47.old hw13 hx9) fun v44 w45 hv44 => ?_)
     obtain ⟨hv44, hb20⟩ := hv44
     have hl48 := Le.no (Del v42 M13) hb20
     have hC48 := hC47.no hb20
     obtain rfl := vbool_eq hv44
     refine lw_op Z Z Z (ow_not Z Z (lw_nil (ew_then ?_)))
     replace hb14 := cond_some hb14
     rcases hb14 with ⟨hc7, hb14⟩ | ⟨hc7, hb14⟩
     ·
      subst hc7
      refine cw_false Z (cw_skip (ew_then (cw_region (lw_op Z Z Z (ow_move Z Z (lw_op Z Z Z (ow_assign Z Z (lw_nil (ew_blockN (ew_then (cw_region (lw_op Z Z Z (ow_move Z Z (lw_op Z Z Z (ow_add Z Z Z (lw_op Z Z Z (ow_assign Z Z (lw_nil ?_))))))))))))))))))
      have lz12 := ((((hl29.trans hl30).trans hl46).trans hl47).trans hl48)
      exact ew_nxt (y7, (W (k5 + 1))) hb14 fun a ha => ⟨(Del v42 M13), v42, (ha.sub ⟨Z, Z, Z, Zt⟩), lz12, hC48, (VRep.mono hl48 hw13)⟩
     ·
      subst hc7
      refine cw_true Z (cw_seq (cw_region (lw_op Z Z Z (ow_buildSlice0I (R := RBox) (e := 48) Z (by kernel_rfl) hC48 fun p19 w46 hw14 hb21 hl49 hC49 => lw_op Z Z Z (ow_assign Z Z (lw_op Z Z Z (ow_assign Z Z (lw_nil (ew_then (cw_ret (ew_thenR (ew_blockR (ew_thenR (ew_thenR (ew_blockR (ew_brkR (ew_thenR ?_)))))))))))))))))
      have e6 := hR3 _ (sj hb14).symm
      subst e6
      obtain rfl := sj h
      exact ew_ret (res2 Z (.tmp Z) (.tmp Z)) ⟨_, Z, ⟨_, _, Z, (VRep.mono hC49.back hw14), ((vbool _))⟩, hC49.bx⟩
   ·
    obtain rfl := hbb3.trans hc5
    exact cw_false Z (cw_exit (ew_thenX (ew_thenX (ew_blockX (ew_brk (y5, k5) hb14 fun a ha => ⟨M9, v26, (ha.sub ⟨Z, Z, Z, Zt⟩), hl29, hC29, hw10⟩)))))
  ·
   rintro ⟨y8, k8⟩ a w47 hlr8 ⟨M14, v45, hF8, hl50, hC50, hw15⟩
   subst hlr8
   refine ew_at (E := [(1, v1p), (6, v45), (7, (Zv k8))]) hF8 (ew_then (cw_seq (cw_region (lw_op Z Z Z (ow_move Z Z (lw_op Z Z Z (ow_assign Z Z (lw_op Z Z Z (ow_assign Z Z (lw_nil (ew_then (cw_ret ?_))))))))))))
   obtain rfl := sj h
   exact ew_ret (res2 Z (.tmp Z) (.tmp Z)) ⟨_, Z, ⟨_, _, Z, (VRep.mono hC50.back hw15), ((vbool _))⟩, hC50.bx⟩

theorem w_spec_RegionLess {w : World} {M : Nat → Prop} (hG : ARep (RArr 4 RShape) w M shapes ⟨0, 0, none⟩) (hO : ∀ b, M b → b < w.heap.size) {v0p : Value} {a_b : Box} (h0 : VRep RBox w M a_b v0p) {v1p : Value} {a_list : List Box} (h1 : VRep (RSlice RBox) w M a_list v1p) {r : (List Box) × Bool} (h : F.spec_RegionLess a_b a_list = some r) :
  Calls Tryd.prog 65 [v0p, v1p].toArray w fun e w' => ∃ v, e = .returned v ∧ (∃ u0 u1, v = .tuple #[u0, u1] ∧ VRep (RSlice RBox) w' M r.1 u0 ∧ VRep RBool w' M r.2 u1) ∧ BX No w w' := by
 have hC : Cx No w M w M := Cx.start hO (fun _ e => e.elim)
 refine walk (N := 24) Tryd.func65 Z Tryd.ntmps65 Z (cw_seq (cw_region ?_))
 obtain ⟨A1, c1, rfl, hw1⟩ := open_Box h0
 refine lw_op Z Z Z (ow_boxOwn Z Z hC fun g1 w1 hg1 hg2 ho1 hb1 hl1 hC1 => ?_)
 have hm1 : (Add g1 M) g1 := .inl Z
 refine lw_op Z Z Z (ow_assign Z Z (lw_op Z Z Z (ow_assign Z Z (lw_nil (ew_then (cw_seq (cw_region (lw_op Z Z Z (ow_loadOwnA Z Z Z ho1 (Tryd.isAgg48 _) (Tryd.sizeOf48 _) Z ?_)))))))))
 have hw2 : VRep RBox w1 (Add g1 M) ({ Sides := a_b.Sides } : Box) (.agg #[(.slice A1 a_b.Sides.length c1)]) := shut_Box (VRep.mono hl1 hw1)
 replace h := bind_some h
 obtain ⟨x1, hx1, h⟩ := h
 refine lw_op Z Z Z (ow_call Z Z Tryd.call96 (w_spec_l1OwnBox (hG.mono hl1) hC1.old hw2 hx1) fun v1 w2 hv1 => ?_)
 obtain ⟨hv1, hb2⟩ := hv1
 have hl2 := Le.no (Add g1 M) hb2
 have hC2 := hC1.no hb2
 have ho2 := ho1.no hb2
 obtain ⟨A2, c2, rfl, hw3⟩ := open_Box hv1
 refine lw_op0 Z Z (ow_store (X := No) (us := [(.slice A2 x1.Sides.length c2)]) (cs' := #[(.slice A2 x1.Sides.length c2)]) Z Z Z Z ho2 (Tryd.sizeOf48 _) Z Z Z Z hm1 (.inl hg2) Z hC2 fun w3 ho3 hb3 hl3 hC3 => lw_nil (ew_then (cw_seq (cw_region (lw_op Z Z Z (ow_move Z Z ?_))))))
 have lz1 := ((hl1.trans hl2).trans hl3)
 replace h := bind_some h
 obtain ⟨x2, hx2, h⟩ := h
 refine lw_op Z Z Z (ow_call Z Z Tryd.call126 (w_spec_l1OwnBoxList (hG.mono lz1) hC3.old (VRep.mono lz1 h1) hx2) fun v2 w4 hv2 => ?_)
 obtain ⟨hv2, hb4⟩ := hv2
 have hl4 := Le.no (Add g1 M) hb4
 have hC4 := hC3.no hb4
 have ho4 := ho3.no hb4
 refine lw_op Z Z Z (ow_assign Z Z (lw_nil (ew_then (cw_seq (cw_seq (cw_region (lw_op Z Z Z (ow_loadOwnA Z Z Z ho4 (Tryd.isAgg48 _) (Tryd.sizeOf48 _) Z ?_))))))))
 have hw4 : VRep RBox w4 (Add g1 M) ({ Sides := x1.Sides } : Box) (.agg #[(.slice A2 x1.Sides.length c2)]) := shut_Box (VRep.mono (hl3.trans hl4) hw3)
 replace h := bind_some h
 obtain ⟨x3, hx3, h⟩ := h
 refine lw_op Z Z Z (ow_call Z Z Tryd.call71 (w_spec_BoxValid (hG.mono (lz1.trans hl4)) hC4.old hw4 hx3) fun v3 w5 hv3 => ?_)
 obtain ⟨hv3, hb5⟩ := hv3
 have hl5 := Le.no (Add g1 M) hb5
 have hC5 := hC4.no hb5
 have ho5 := ho4.no hb5
 obtain rfl := vbool_eq hv3
 refine lw_op Z Z Z (ow_not Z Z (lw_op Z Z Z (ow_move Z Z ?_)))
 replace h := cond_some h
 rcases h with ⟨hc1, h⟩ | ⟨hc1, h⟩
 ·
  subst hc1
  refine lw_on Z Z Z Z Z Z (ow_move Z Z ?_)
  replace h := bind_some h
  obtain ⟨x4, hx4, h⟩ := h
  have lz2 := ((lz1.trans hl4).trans hl5)
  refine lw_on Z Z Z Z Z Z (ow_call Z Z Tryd.call127 (w_spec_RegionValid (hG.mono lz2) hC5.old (VRep.mono hl5 hv2) hx4) fun v4 w6 hv4 => ?_)
  obtain ⟨hv4, hb6⟩ := hv4
  have hl6 := Le.no (Add g1 M) hb6
  have hC6 := hC5.no hb6
  have ho6 := ho5.no hb6
  obtain rfl := vbool_eq hv4
  refine lw_on Z Z Z Z Z Z (ow_not Z Z (lw_op Z Z Z (ow_pickF Z Z Z (lw_nil (ew_then ?_)))))
  replace h := cond_some h
  rcases h with ⟨hc2, h⟩ | ⟨hc2, h⟩
  ·
   subst hc2
   refine cw_false Z (cw_skip (ew_then (cw_seq (cw_region (lw_op Z Z Z (ow_loadOwnA Z Z Z ho6 (Tryd.isAgg48 _) (Tryd.sizeOf48 _) Z ?_))))))
   have lz3 := (((hl3.trans hl4).trans hl5).trans hl6)
   have hw5 : VRep RBox w6 (Add g1 M) ({ Sides := x1.Sides } : Box) (.agg #[(.slice A2 x1.Sides.length c2)]) := shut_Box (VRep.mono lz3 hw3)
   refine lw_op Z Z Z (ow_move Z Z ?_)
   replace h := bind_some h
   obtain ⟨x5, hx5, h⟩ := h
   refine lw_op Z Z Z (ow_call Z Z Tryd.call128 (w_spec_l11Less (hG.mono (lz2.trans hl6)) hC6.old hw5 (VRep.mono (hl5.trans hl6) hv2) hx5) fun v5 w7 hv5 => ?_)
   obtain ⟨⟨v6, v7, rfl, hv6, hv7⟩, hb7⟩ := hv5
   have hC7 := hC6.no hb7
   obtain ⟨bb1, hbb1, rfl⟩ := vbool_ex hv7
   refine lw_op Z Z Z (ow_extract Z Z Z (lw_op Z Z Z (ow_extract Z Z Z (lw_op Z Z Z (ow_assign Z Z (lw_op Z Z Z (ow_assign Z Z (lw_nil (ew_then (cw_ret ?_))))))))))
   obtain rfl := sj h
   exact ew_ret (res2 Z (.tmp Z) (.tmp Z)) ⟨_, Z, ⟨_, _, Z, (VRep.mono hC7.back hv6), ((vbool_of hbb1))⟩, hC7.bx⟩
  ·
   subst hc2
   refine cw_true Z (cw_seq (cw_region (lw_op Z Z Z (ow_buildSlice0I (R := RBox) (e := 48) Z (by kernel_rfl) hC6 fun p1 w8 hw6 hb8 hl8 hC8 => lw_op Z Z Z (ow_assign Z Z (lw_op Z Z Z (ow_assign Z Z (lw_nil (ew_then (cw_ret (ew_thenR ?_)))))))))))
   obtain rfl := sj h
   exact ew_ret (res2 Z (.tmp Z) (.tmp Z)) ⟨_, Z, ⟨_, _, Z, (VRep.mono hC8.back hw6), ((vbool _))⟩, hC8.bx⟩
 ·
  subst hc1
  refine lw_off Z Z Z Z Z Z (lw_off Z Z Z Z Z Z (lw_off Z Z Z Z Z Z (lw_op Z Z Z (ow_pickT Z Z Z (lw_nil (ew_then (cw_true Z (cw_seq (cw_region (lw_op Z Z Z (ow_buildSlice0I (R := RBox) (e := 48) Z (by kernel_rfl) hC5 fun p2 w9 hw7 hb9 hl9 hC9 => lw_op Z Z Z (ow_assign Z Z (lw_op Z Z Z (ow_assign Z Z (lw_nil (ew_then (cw_ret (ew_thenR ?_))))))))))))))))))
  obtain rfl := sj h
  exact ew_ret (res2 Z (.tmp Z) (.tmp Z)) ⟨_, Z, ⟨_, _, Z, (VRep.mono hC9.back hw7), ((vbool _))⟩, hC9.bx⟩

theorem wu_laws_toBoxS {w : World} {M : Nat → Prop} (hG : ARep (RArr 4 RShape) w M shapes ⟨0, 0, none⟩) (hO : ∀ b, M b → b < w.heap.size) {Y : Nat → Prop} (hY : ∀ b, w.heap.size ≤ b → Y b) {v0p : Value} {a_a : List Box} (h0 : VRep (RSlice RBox) w M a_a v0p) {r : (List Box)} (h : F.laws_toBoxS a_a = some r) :
  Calls Tryd.prog 66 [v0p].toArray w fun e w' => ∃ v, e = .returned v ∧ VRep (RSliceU Y (RBoxU Y)) w' M r v ∧ BX No w w' := by
 obtain ⟨i48, hi48, hz48, hs48, hy48⟩ := info48
 have hC : Cx No w M w M := Cx.start hO (fun _ e => e.elim)
 refine walk (N := 23) Tryd.func66 Z Tryd.ntmps66 Z (cw_seq (cw_region (lw_op Z Z Z (ow_assign Z Z (lw_nil (ew_then (cw_seq (cw_region (lw_op Z Z Z (ow_move Z Z (lw_op Z Z Z (ow_len Z Z h0 Tryd.underlying93 Z ?_))))))))))))
 replace h := bind_some h
 obtain ⟨mk1, hmk1, h⟩ := h
 refine lw_op Z Z Z (ow_make (R := (RBoxU Y)) Z Z Z Tryd.underlying64 hi48 hz48 hs48 hy48 Z Z (shutU_Box vsliceU_nil) hmk1 hC fun v1 w1 M1 hr1 hb1 hl1 hC1 hM1 hat1 => lw_op Z Z Z (ow_assign Z Z (lw_nil (ew_then (cw_seq (cw_seq (cw_region (lw_op Z Z Z (ow_assign Z Z (lw_nil (ew_then ?_)))))))))))
 replace h := bind_some h
 obtain ⟨lr1, hlr1, h⟩ := h
 refine cw_for hlr1 (fun s a w' => ∃ (M' : Nat → Prop), Fits 23 [(0, v0p), (3, v1), (4, (Zv s.1))] a ∧ Le w1 M1 w' M' ∧ Cx No w M w' M' ∧ OwnRow (RBoxU Y) w.heap.size 48 w' M' s.2 v1) ?_ ?_ ?_
 · exact fun a ha => ⟨M1, ha.sub ⟨Z, Z, Z, Zt⟩, Le.refl _ _, hC1, hr1⟩
 ·
  rintro ⟨k1, y1⟩ a w2 sr1 ⟨M2, hF1, hl2, hC2, hw1⟩ hb2 hR1
  refine cw_at (E := [(0, v0p), (3, v1), (4, (Zv k1))]) hF1 (cw_seq (cw_seq (cw_region (lw_op Z Z Z (ow_move Z Z (lw_op Z Z Z (ow_move Z Z (lw_op Z Z Z (ow_len Z Z (VRep.mono (hl1.trans hl2) h0) Tryd.underlying93 Z (lw_op Z Z Z (ow_lss Z Z Z fun bb1 hbb1 => lw_nil (ew_then ?_))))))))))))
  replace hb2 := cond_some hb2
  rcases hb2 with ⟨hc1, hb2⟩ | ⟨hc1, hb2⟩
  ·
   obtain rfl := hbb1.trans hc1
   refine cw_true Z (cw_skip (ew_then (cw_seq (cw_block (cw_region (lw_op Z Z Z (ow_move Z Z (lw_op Z Z Z (ow_move Z Z (lw_op Z Z Z (ow_move Z Z (lw_op Z Z Z (ow_move Z Z ?_)))))))))))))
   replace hb2 := bind_some hb2
   obtain ⟨x1, hx1, hb2⟩ := hb2
   refine lw_op Z Z Z (ow_indexSlice (R := RBox) Z Z Z (VRep.mono (hl1.trans hl2) h0) Tryd.underlying93 (Tryd.sizeOf42 _) hx1 fun p1 hp1 => lw_op Z Z Z (ow_load (R := RBox) Z Z hp1 (Tryd.sizeOf42 _) (Tryd.isAgg42 _) fun v4 hv4 => ?_))
   replace hb2 := bind_some hb2
   obtain ⟨x2, hx2, hb2⟩ := hb2
   refine lw_op Z Z Z (ow_call Z Z Tryd.call23 (wu_laws_toBox (hG.mono (hl1.trans hl2)) hC2.old (fun b hb => hY b (Nat.le_trans hC2.bx.size hb)) hv4 hx2) fun v5 w3 hv5 => ?_)
   obtain ⟨hv5, hb3⟩ := hv5
   have hl3 := Le.no M2 hb3
   have hC3 := hC2.no hb3
   have hr2 := hw1.no hb3
   replace hb2 := bind_some hb2
   obtain ⟨x3, hx3, hb2⟩ := hb2
   refine lw_op Z Z Z (ow_indexRow (R := (RBoxU Y)) Z Z Z hr2 Tryd.underlying64 (Tryd.sizeOf48 _) hx3 (lw_op0 Z Z (ow_storeElRow (X := No) (R := (RBoxU Y)) (S := (RBoxU Y)) Z Z Z Z hr2 (orow_blk hr2 hx3) hx3 (FldSet.whole (RBoxU Y)) (Tryd.sizeOf48 _) hv5 (Nat.le_refl _) hC3 fun w4 ho1 hb4 hl4 hC4 => lw_nil (ew_blockN (ew_then (cw_region (lw_op Z Z Z (ow_move Z Z (lw_op Z Z Z (ow_add Z Z Z (lw_op Z Z Z (ow_assign Z Z (lw_nil ?_)))))))))))))
   have lz1 := ((hl2.trans hl3).trans hl4)
   exact ew_nxt ((W (k1 + 1)), (List.set y1 (k1 : Int).toNat x2)) hb2 fun a ha => ⟨M2, (ha.sub ⟨Z, Z, Z, Zt⟩), lz1, hC4, ho1⟩
  ·
   obtain rfl := hbb1.trans hc1
   exact cw_false Z (cw_exit (ew_thenX (ew_thenX (ew_blockX (ew_brk (k1, y1) hb2 fun a ha => ⟨M2, (ha.sub ⟨Z, Z, Z, Zt⟩), hl2, hC2, hw1⟩)))))
 ·
  rintro ⟨k2, y2⟩ a w5 hlr2 ⟨M3, hF2, hl5, hC5, hw2⟩
  subst hlr2
  refine ew_at (E := [(0, v0p), (3, v1), (4, (Zv k2))]) hF2 (ew_then (cw_seq (cw_region (lw_op Z Z Z (ow_move Z Z (lw_op Z Z Z (ow_assign Z Z (lw_nil (ew_then (cw_ret ?_))))))))))
  obtain rfl := sj h
  exact ew_ret (res1 Z (.tmp Z)) ⟨_, Z, (hw2.freezeBackU hC5 hO hY), hC5.bx⟩

theorem wt_impl_sides_box {w : World} {M : Nat → Prop} (_hG : ARep (RArr 4 RShape) w M shapes ⟨0, 0, none⟩) (hO : ∀ b, M b → b < w.heap.size) {Y : Nat → Prop} (hY : ∀ b, w.heap.size ≤ b → Y b) {v0p : Value} {a_s : List (List Span)} (h0 : VRep (RArr 4 (RSlice RSpan)) w M a_s v0p) {r : Box} (h : F.impl_sides_box a_s = some r) :
    Calls Tryd.prog 99 [v0p].toArray w fun e w' => ∃ v, e = .returned v ∧ VRep (RBoxT Y 120) w' M r v ∧ BX No w w' := by
  obtain ⟨i120, hi120, hz120, hs120, hy120⟩ := info120
  obtain ⟨i121, hi121, hz121, hs121, hy121⟩ := info121
  have hC : Cx No w M w M := Cx.start hO (fun _ e => e.elim)
  clear _hG
  refine walk (N := 21) Tryd.func99 rfl Tryd.ntmps99 rfl ?_
  refine cw_seq ?_
  refine cw_region ?_
  refine lw_op rfl rfl rfl (ow_box (R := (RArr 4 (RSlice RSpan))) rfl rfl h0 hC fun p1 w1 hp1 hb1 hl1 hC1 => ?_)
  refine lw_op rfl rfl rfl (ow_alloc rfl (Tryd.zeroValue48 _) hC1 fun g1 w2 hg1 hg2 ho1 hb2 hl2 hC2 => ?_)
  have hm1 : (Add g1 M) g1 := .inl rfl
  refine lw_nil ?_
  refine ew_then ?_
  refine cw_seq ?_
  refine cw_region ?_
  replace h := bind_some h
  obtain ⟨mk1, hmk1, h⟩ := h
  refine lw_op rfl rfl rfl (ow_make (R := RTg (RSpR 120)) rfl rfl rfl Tryd.underlying46 hi121 hz121 hs121 hy121 rfl rfl vtg_nil (makeF_tag hmk1) hC2 fun v1 w3 M1 hr1 hb3 hl3 hC3 hM1 hat1 => ?_)
  have ho2 := ho1.no hb3
  have hm2 := hM1 _ hm1
  obtain ⟨A1, c1, rfl⟩ : ∃ A c, v1 = .slice A mk1.length c := by
    obtain ⟨A, c, e⟩ := hr1.len
    exact ⟨A, c, by rw [e, List.length_map]⟩
  refine lw_op rfl rfl rfl (ow_build (v := .agg #[(.slice A1 mk1.length c1)]) rfl rfl (by kernel_rfl) ?_)
  refine lw_op rfl rfl rfl (ow_alloc rfl (Tryd.zeroValue48 _) hC3 fun g2 w4 hg3 hg4 ho3 hb4 hl4 hC4 => ?_)
  have hn1 := Nat.ne_of_lt (Nat.lt_of_lt_of_le ho2.lt hg3)
  have ho4 := ho2.no hb4
  have hm3 : (Add g2 M1) g1 := .inr hm2
  have hr2 := hr1.add hb4 hg3
  have hm4 : (Add g2 M1) g2 := .inl rfl
  refine lw_op0 rfl rfl (ow_store (X := No) (us := [(.slice A1 mk1.length c1)]) (cs' := #[(.slice A1 mk1.length c1)]) rfl rfl rfl rfl ho3 (Tryd.sizeOf48 _) rfl rfl rfl rfl hm4 (.inl hg4) rfl hC4 fun w5 ho5 hb5 hl5 hC5 => ?_)
  have ho6 := ho4.go hb5 (fun e => hn1 e)
  have hr3 := hr2.go hb5 (fun k hk e => (orow_ne hr2 ho3 (by decide)) (hk.trans (congrArg some e))) hl5 (fun _ h => h)
  refine lw_nil ?_
  refine ew_then ?_
  refine cw_seq ?_
  refine cw_seq ?_
  refine cw_region ?_
  have lz1 := (((hl2.trans hl3).trans hl4).trans hl5)
  refine lw_op rfl rfl rfl (ow_load (R := (RArr 4 (RSlice RSpan))) rfl rfl (ARep.mono lz1 hp1) (Tryd.sizeOf131 _) (Tryd.isAgg131 _) fun v2 hv2 => ?_)
  refine lw_op rfl rfl rfl (ow_move rfl rfl ?_)
  refine lw_nil ?_
  refine ew_then ?_
  replace h := bind_some h
  obtain ⟨lr1, hlr1, h⟩ := h
  refine cw_for hlr1 (fun s a w' => ∃ (M' : Nat → Prop) (gs : List (Tag × List Span)), Fits 21 [(2, (.pointer (some ⟨g1, 0, none⟩))), (3, (.pointer (some ⟨g2, 0, none⟩))), (8, v2), (9, (.int .i64 s.1))] a ∧ Le w5 (Add g2 M1) w' M' ∧ Cx No w M w' M' ∧ (gs.map (·.2) = s.2 ∧ TagOk w.heap.size gs w') ∧ OwnRow (RTg (RSpR 120)) w.heap.size 121 w' M' gs (.slice A1 mk1.length c1) ∧ Own w' g1 48 #[(.slice none 0 0)] ∧ M' g1 ∧ Own w' g2 48 #[(.slice A1 mk1.length c1)] ∧ M' g2) ?_ ?_ ?_
  · intro a ha
    exact ⟨(Add g2 M1), _, ha.sub ⟨rfl, rfl, rfl, rfl, trivial⟩, Le.refl _ _, hC5, ⟨tag_snd, TagOk.zero⟩, hr3, ho6, hm3, ho5, hm4⟩
  · rintro ⟨k1, y1⟩ a w6 sr1 ⟨M2, gs, hF1, hl6, hC6, ⟨hgs, hgt⟩, hw1, ho7, hm5, ho8, hm6⟩ hb6 hR1
    refine cw_at (E := [(2, (.pointer (some ⟨g1, 0, none⟩))), (3, (.pointer (some ⟨g2, 0, none⟩))), (8, v2), (9, (.int .i64 k1))]) hF1 ?_
    refine cw_seq ?_
    refine cw_region ?_
    refine lw_op rfl rfl rfl (ow_lss rfl rfl rfl fun bb1 hbb1 => ?_)
    refine lw_nil ?_
    refine ew_then ?_
    refine cw_seq ?_
    replace hb6 := cond_some hb6
    rcases hb6 with ⟨hc1, hb6⟩ | ⟨hc1, hb6⟩
    · obtain rfl := hbb1.trans hc1
      refine cw_true rfl ?_
      refine cw_skip ?_
      refine ew_then ?_
      refine cw_seq ?_
      refine cw_block ?_
      refine cw_seq ?_
      refine cw_region ?_
      refine lw_op rfl rfl rfl (ow_move rfl rfl ?_)
      replace hb6 := bind_some hb6
      obtain ⟨x1, hx1, hb6⟩ := hb6
      refine lw_op rfl rfl rfl (ow_index (R := (RSlice RSpan)) rfl rfl rfl (VRep.mono hl6 hv2) Tryd.underlying131 (Tryd.sizeOf121 _) (Tryd.isAgg121 _) hx1 fun v5 hv5 => ?_)
      refine lw_op rfl rfl rfl (ow_assign rfl rfl ?_)
      refine lw_op rfl rfl rfl (ow_assign rfl rfl ?_)
      refine lw_nil ?_
      refine ew_then ?_
      replace hb6 := bind_some hb6
      obtain ⟨z1, hz1, hb6⟩ := hb6
      have lz2 := (((((hl1.trans hl2).trans hl3).trans hl4).trans hl5).trans hl6)
      refine cw_sub (E' := [(2, (.pointer (some ⟨g1, 0, none⟩))), (3, (.pointer (some ⟨g2, 0, none⟩))), (4, (.int .i64 k1)), (5, v5), (8, v2), (9, (.int .i64 k1))]) ⟨rfl, rfl, rfl, rfl, rfl, rfl, trivial⟩ ?_
      refine cw_drawQ 5 [PEq (.pointer (some ⟨g2, 0, none⟩)), PEq (.slice A1 mk1.length c1), PEq (.int .i64 k1), PV (RSlice RSpan) M2 x1, PV (RSpR 120) (fun b => M2 b ∨ b < w6.heap.size) z1] (by kernel_rfl) rfl (by kernel_rfl) ⟨PEq.mono _, PEq.mono _, PEq.mono _, PV.mono _ _ _, PV.mono _ _ _, trivial⟩ ⟨?_, ?_, ?_, ?_, ?_, trivial⟩ ?_
      · intro w8 D hS1 hd1
        have hl8 := Le.no M2 hS1
        have hC8 := hC6.no hS1
        have ho11 := ho7.no hS1
        have ho12 := ho8.no hS1
        have hr5 := hw1.no hS1
        refine dg_sub (E' := [(3, (.pointer (some ⟨g2, 0, none⟩)))]) ⟨rfl, trivial⟩ ?_
        refine dg_plain rfl (ow_fieldAddr rfl rfl Tryd.underlying48 rfl (Tryd.sizeOf46 _) ?_)
        exact ⟨BX.refl _ _, rfl⟩
      · intro w9 D hS2 hd2
        have hl9 := Le.no M2 hS2
        have hC9 := hC6.no hS2
        have ho13 := ho7.no hS2
        have ho14 := ho8.no hS2
        have hr6 := hw1.no hS2
        have d1 : PEq (.pointer (some ⟨g2, 0, none⟩)) (D 0) w9 := dpA hd2 0 rfl
        refine dg_sub (E' := [(13, (.pointer (some ⟨g2, 0, none⟩)))]) ⟨(congrArg some d1), trivial⟩ ?_
        refine dg_plain rfl (ow_loadOwn1 rfl rfl rfl ho14 (Tryd.isAgg46 _) rfl ?_)
        exact ⟨BX.refl _ _, rfl⟩
      · intro w10 D hS3 hd3
        have hl10 := Le.no M2 hS3
        have hC10 := hC6.no hS3
        have ho15 := ho7.no hS3
        have ho16 := ho8.no hS3
        have hr7 := hw1.no hS3
        refine dg_sub (E' := [(4, (.int .i64 k1))]) ⟨rfl, trivial⟩ ?_
        refine dg_plain rfl (ow_move rfl rfl ?_)
        exact ⟨BX.refl _ _, rfl⟩
      · intro w11 D hS4 hd4
        have hl11 := Le.no M2 hS4
        have hC11 := hC6.no hS4
        have ho17 := ho7.no hS4
        have ho18 := ho8.no hS4
        have hr8 := hw1.no hS4
        refine dg_sub (E' := [(5, v5)]) ⟨rfl, trivial⟩ ?_
        refine dg_plain rfl (ow_move rfl rfl ?_)
        exact ⟨BX.refl _ _, (VRep.mono hl11 hv5)⟩
      · intro w12 D hS5 hd5
        have hl12 := Le.no M2 hS5
        have hC12 := hC6.no hS5
        have ho19 := ho7.no hS5
        have ho20 := ho8.no hS5
        have hr9 := hw1.no hS5
        have d2 : PV (RSlice RSpan) M2 x1 (D 3) w12 := dpA hd5 3 rfl
        generalize hq1 : (D 3) = v7 at d2
        refine dg_sub (E' := [(16, v7)]) ⟨(congrArg some hq1), trivial⟩ ?_
        refine dg_plain rfl (ow_append (R := RSpan) (xs := []) (v := .slice none 0 0) rfl rfl rfl rfl Tryd.underlying121 hi120 hz120 hs120 hy120 rfl rfl rfl rfl ownrow_nil d2 hz1 hC12 fun v8 w13 M13 hr13 hb8 hl13 hC13 hM13 hat13 => ?_)
        replace hb8 : BX No w12 w13 := hb8.mono (fun b _ e => by cases e)
        have ho21 := ho19.no hb8
        have ho22 := ho20.no hb8
        have hr10 := hr9.no hb8
        exact ⟨hb8, hr13.spr (app_fresh hat13 hC12.old hS5.size)⟩
      · intro w14 D hS6 hd6
        have d4 : PEq (.slice A1 mk1.length c1) (D 1) w14 := dpA hd6 1 rfl
        have d5 : PEq (.int .i64 k1) (D 2) w14 := dpA hd6 2 rfl
        have d7 : PV (RSpR 120) (fun b => M2 b ∨ b < w6.heap.size) z1 (D 4) w14 := dpA hd6 4 rfl
        have hl14 := Le.no M2 hS6
        have hC14 := hC6.no hS6
        have ho23 := ho7.no hS6
        have ho24 := ho8.no hS6
        have hr11 := hw1.no hS6
        generalize hq2 : (D 4) = v9 at d7
        refine lw_sub (E' := [(14, (.slice A1 mk1.length c1)), (15, (.int .i64 k1)), (17, v9), (2, (.pointer (some ⟨g1, 0, none⟩))), (3, (.pointer (some ⟨g2, 0, none⟩))), (4, (.int .i64 k1)), (5, v5), (8, v2), (9, (.int .i64 k1))]) ⟨(congrArg some d4), (congrArg some d5), (congrArg some hq2), rfl, rfl, rfl, rfl, rfl, rfl, trivial⟩ ?_
        replace hb6 := bind_some hb6
        obtain ⟨x2, hx2, hb6⟩ := hb6
        obtain ⟨y2t, hx2t⟩ := idx_tag (show idx (gs.map (·.2)) k1 = some x2 by rw [hgs]; exact hx2)
        refine lw_op rfl rfl rfl (ow_indexRow (R := RTg (RSpR 120)) rfl rfl rfl hr11 Tryd.underlying46 (Tryd.sizeOf121 _) hx2t ?_)
        refine lw_op0 rfl rfl (ow_storeElRow (X := No) (R := RTg (RSpR 120)) (S := RTg (RSpR 120)) rfl rfl rfl rfl hr11 (orow_blk hr11 hx2t) hx2t (FldSet.whole (RTg (RSpR 120))) (Tryd.sizeOf121 _) (spr_tag d7) (Nat.le_refl _) hC14 fun w15 ho25 hb9 hl15 hC15 => ?_)
        have ho26 := ho23.go hb9 (fun e => (orow_ne hr11 ho23 (by decide)) (by rw [orow_blk hr11 hx2t]; exact congrArg some e.symm))
        have ho27 := ho24.go hb9 (fun e => (orow_ne hr11 ho24 (by decide)) (by rw [orow_blk hr11 hx2t]; exact congrArg some e.symm))
        refine lw_nil ?_
        refine ew_blockN ?_
        refine ew_then ?_
        refine cw_region ?_
        refine lw_op rfl rfl rfl (ow_add rfl rfl rfl ?_)
        refine lw_op rfl rfl rfl (ow_move rfl rfl ?_)
        refine lw_nil ?_
        have lz3 := ((hl6.trans hl14).trans hl15)
        refine ew_nxt ((W (k1 + 1)), (List.set y1 (k1 : Int).toNat z1)) hb6 fun a ha => ⟨M2, _, ?_, lz3, hC15, ⟨by show List.map _ (List.set _ _ _) = List.set y1 _ z1; rw [List.map_set, hgs], hgt.set (Nat.le_refl _) hC6.bx.size hb9.size (Nat.le_trans hS6.size hb9.size) _ _⟩, ho25, ho26, hm5, ho27, hm6⟩
        exact ha.sub ⟨rfl, rfl, rfl, rfl, trivial⟩
    · obtain rfl := hbb1.trans hc1
      refine cw_false rfl ?_
      refine cw_exit ?_
      refine ew_thenX ?_
      refine ew_thenX ?_
      refine ew_blockX ?_
      refine ew_brk (k1, y1) hb6 fun a ha => ⟨M2, gs, ?_, hl6, hC6, ⟨hgs, hgt⟩, hw1, ho7, hm5, ho8, hm6⟩
      exact ha.sub ⟨rfl, rfl, rfl, rfl, trivial⟩
  · rintro ⟨k2, y2⟩ a w16 hlr2 ⟨M3, gs, hF2, hl16, hC16, ⟨hgs, hgt⟩, hw4, ho28, hm7, ho29, hm8⟩
    subst hlr2
    refine ew_at (E := [(2, (.pointer (some ⟨g1, 0, none⟩))), (3, (.pointer (some ⟨g2, 0, none⟩))), (8, v2), (9, (.int .i64 k2))]) hF2 ?_
    refine ew_then ?_
    refine cw_seq ?_
    refine cw_region ?_
    refine lw_op rfl rfl rfl (ow_loadOwnA rfl rfl rfl ho29 (Tryd.isAgg48 _) (Tryd.sizeOf48 _) rfl ?_)
    refine lw_op0 rfl rfl (ow_store (X := No) (us := [(.slice A1 mk1.length c1)]) (cs' := #[(.slice A1 mk1.length c1)]) rfl rfl rfl rfl ho28 (Tryd.sizeOf48 _) rfl rfl rfl rfl hm7 (.inl hg2) rfl hC16 fun w17 ho30 hb10 hl18 hC18 => ?_)
    have ho31 := ho29.go hb10 (fun e => hn1 e.symm)
    refine lw_nil ?_
    refine ew_then ?_
    refine cw_ret ?_
    have hr17 := hw4.go hb10 (fun k hk e => (orow_ne hw4 ho28 (by decide)) (hk.trans (congrArg some e))) hl18 (fun _ h => h)
    have hbt := hr17.freezeT (hgt.le hb10.size) hC18 hO hY rfl
    rw [show gs.map (·.2) = y2 from hgs] at hbt
    obtain rfl := Option.some.inj h
    exact ew_ret (res1 rfl (.cell rfl (own_loadVarA ho30 (Tryd.isAgg48 _) (Tryd.sizeOf48 _) rfl))) ⟨_, rfl, shutT_Box hbt, hC18.bx⟩

theorem wt_impl_boxesOf {w : World} {M : Nat → Prop} (hG : ARep (RArr 4 RShape) w M shapes ⟨0, 0, none⟩) (hO : ∀ b, M b → b < w.heap.size) {Y : Nat → Prop} (hY : ∀ b, w.heap.size ≤ b → Y b) {v0p : Value} {a_list : List (List (List Span))} (h0 : VRep (RSlice (RArr 4 (RSlice RSpan))) w M a_list v0p) {r : (List Box)} (h : F.impl_boxesOf a_list = some r) :
    Calls Tryd.prog 113 [v0p].toArray w fun e w' => ∃ v, e = .returned v ∧ VRep (RIn Y (RBoxSS 120)) w' M r v ∧ BX No w w' := by
  obtain ⟨i48, hi48, hz48, hs48, hy48⟩ := info48
  have hC : Cx No w M w M := Cx.start hO (fun _ e => e.elim)
  refine walk (N := 22) Tryd.func113 rfl Tryd.ntmps113 rfl ?_
  refine cw_seq ?_
  refine cw_region ?_
  refine lw_op rfl rfl rfl (ow_assign rfl rfl ?_)
  refine lw_nil ?_
  refine ew_then ?_
  refine cw_seq ?_
  refine cw_region ?_
  refine lw_op rfl rfl rfl (ow_move rfl rfl ?_)
  refine lw_op rfl rfl rfl (ow_len rfl rfl h0 Tryd.underlying157 rfl ?_)
  replace h := bind_some h
  obtain ⟨u1, hu1, h⟩ := h
  refine lw_op rfl rfl rfl (ow_make0 (α := Tag × Box) (R := RTg (RBoxS 120)) rfl rfl rfl Tryd.underlying64 hi48 hz48 hs48 hy48 rfl rfl (capF_some hu1) hC fun v1 w1 M1 hr1 hb1 hl1 hC1 hM1 hat1 => ?_)
  refine lw_op rfl rfl rfl (ow_assign rfl rfl ?_)
  refine lw_nil ?_
  refine ew_then ?_
  refine cw_seq ?_
  refine cw_seq ?_
  refine cw_region ?_
  refine lw_op rfl rfl rfl (ow_move rfl rfl ?_)
  refine lw_op rfl rfl rfl (ow_len rfl rfl (VRep.mono hl1 h0) Tryd.underlying157 rfl ?_)
  refine lw_op rfl rfl rfl (ow_move rfl rfl ?_)
  refine lw_nil ?_
  refine ew_then ?_
  replace h := bind_some h
  obtain ⟨lr1, hlr1, h⟩ := h
  refine cw_for hlr1 (fun s a w' => ∃ (M' : Nat → Prop) (v0c : Value) (gs : List (Tag × Box)), Fits 22 [(3, v0c), (9, v0p), (10, (.int .i64 (a_list.length : Int))), (11, (.int .i64 s.2))] a ∧ Le w1 M1 w' M' ∧ Cx No w M w' M' ∧ (gs.map (·.2) = s.1 ∧ TagOk w.heap.size gs w') ∧ OwnRow (RTg (RBoxS 120)) w.heap.size 48 w' M' gs v0c) ?_ ?_ ?_
  · intro a ha
    exact ⟨M1, v1, [], ha.sub ⟨rfl, rfl, rfl, rfl, trivial⟩, Le.refl _ _, hC1, ⟨rfl, ⟨.nil, fun g hg => by cases hg⟩⟩, hr1⟩
  · rintro ⟨y1, k1⟩ a w2 sr1 ⟨M2, v2, gs, hF1, hl2, hC2, ⟨hgs, hgt⟩, hw1⟩ hb2 hR1
    refine cw_at (E := [(3, v2), (9, v0p), (10, (.int .i64 (a_list.length : Int))), (11, (.int .i64 k1))]) hF1 ?_
    refine cw_seq ?_
    refine cw_region ?_
    refine lw_op rfl rfl rfl (ow_lss rfl rfl rfl fun bb1 hbb1 => ?_)
    refine lw_nil ?_
    refine ew_then ?_
    refine cw_seq ?_
    replace hb2 := cond_some hb2
    rcases hb2 with ⟨hc1, hb2⟩ | ⟨hc1, hb2⟩
    · obtain rfl := hbb1.trans hc1
      refine cw_true rfl ?_
      refine cw_skip ?_
      refine ew_then ?_
      refine cw_seq ?_
      refine cw_block ?_
      refine cw_seq ?_
      refine cw_region ?_
      replace hb2 := bind_some hb2
      obtain ⟨x1, hx1, hb2⟩ := hb2
      refine lw_op rfl rfl rfl (ow_indexSlice (R := (RArr 4 (RSlice RSpan))) rfl rfl rfl (VRep.mono (hl1.trans hl2) h0) Tryd.underlying157 (Tryd.sizeOf131 _) hx1 fun p1 hp1 => ?_)
      refine lw_op rfl rfl rfl (ow_load (R := (RArr 4 (RSlice RSpan))) rfl rfl hp1 (Tryd.sizeOf131 _) (Tryd.isAgg131 _) fun v4 hv4 => ?_)
      refine lw_allocStore (R := (RArr 4 (RSlice RSpan))) rfl rfl rfl rfl rfl rfl rfl Tryd.zeroValue131 Tryd.sizeOf131 rfl rfl rfl (by simp) hv4 hC2 fun p2 w3 hp2 hb3 hl3 hC3 => ?_
      have hr2 := hw1.no hb3
      refine lw_nil ?_
      refine ew_then ?_
      refine cw_region ?_
      refine lw_op rfl rfl rfl (ow_move rfl rfl ?_)
      refine lw_op rfl rfl rfl (ow_load (R := (RArr 4 (RSlice RSpan))) rfl rfl hp2 (Tryd.sizeOf131 _) (Tryd.isAgg131 _) fun v5 hv5 => ?_)
      replace hb2 := bind_some hb2
      obtain ⟨x2, hx2, hb2⟩ := hb2
      have lz1 := ((hl1.trans hl2).trans hl3)
      refine lw_op rfl rfl rfl (ow_call rfl rfl Tryd.call99 (wt_impl_sides_box (hG.mono lz1) hC3.old (Y := fun b => w3.heap.size ≤ b) (fun _ h => h) hv5 hx2) fun v6 w4 hv6 => ?_)
      obtain ⟨hv6, hb4⟩ := hv6
      have hl4 := Le.no M2 hb4
      have hC4 := hC3.no hb4
      have hr3 := hr2.no hb4
      obtain ⟨A1, c1, rfl, hw2⟩ := openT_Box hv6
      have hv6t := box_tag hv6
      refine lw_op rfl rfl rfl (ow_buildSlice (R := RTg (RBoxS 120)) (xs := [((w3.heap.size, w4.heap.size), x2)]) (cs := #[(.slice A1 x2.Sides.length c1)]) (e := 48) rfl rfl (by kernel_rfl) rfl rfl ⟨_, _, rfl, hv6t.cells, rfl⟩ hC4 fun p3 w5 hw3 hb5 hl5 hC5 => ?_)
      have hr4 := hr3.no hb5
      replace hb2 := bind_some hb2
      obtain ⟨z1, hz1, hb2⟩ := hb2
      obtain ⟨hz1t, hgs1⟩ := appF_tag (gs := gs) (w3.heap.size, w4.heap.size) (by rw [hgs]; exact hz1)
      refine lw_op rfl rfl rfl (ow_append (R := RTg (RBoxS 120)) rfl rfl rfl rfl Tryd.underlying64 hi48 hz48 hs48 hy48 rfl rfl rfl rfl hr4 hw3 hz1t hC5 fun v7 w6 M3 hr5 hb6 hl6 hC6 hM2 hat2 => ?_)
      refine lw_op rfl rfl rfl (ow_assign rfl rfl ?_)
      refine lw_nil ?_
      refine ew_blockN ?_
      refine ew_then ?_
      refine cw_region ?_
      refine lw_op rfl rfl rfl (ow_add rfl rfl rfl ?_)
      refine lw_op rfl rfl rfl (ow_move rfl rfl ?_)
      refine lw_nil ?_
      have lz2 := ((((hl2.trans hl3).trans hl4).trans hl5).trans hl6)
      refine ew_nxt (z1, (W (k1 + 1))) hb2 fun a ha => ⟨M3, v7, _, ?_, lz2, hC6, ⟨hgs1, hgt.app hb3.size hC3.bx.size (Nat.le_trans hb5.size hb6.size) (Nat.le_trans (Nat.le_trans hb3.size hb4.size) (Nat.le_trans hb5.size hb6.size)) _⟩, hr5⟩
      exact ha.sub ⟨rfl, rfl, rfl, rfl, trivial⟩
    · obtain rfl := hbb1.trans hc1
      refine cw_false rfl ?_
      refine cw_exit ?_
      refine ew_thenX ?_
      refine ew_thenX ?_
      refine ew_blockX ?_
      refine ew_brk (y1, k1) hb2 fun a ha => ⟨M2, v2, gs, ?_, hl2, hC2, ⟨hgs, hgt⟩, hw1⟩
      exact ha.sub ⟨rfl, rfl, rfl, rfl, trivial⟩
  · rintro ⟨y2, k2⟩ a w7 hlr2 ⟨M4, v8, gs, hF2, hl7, hC7, ⟨hgs, hgt⟩, hw4⟩
    subst hlr2
    refine ew_at (E := [(3, v8), (9, v0p), (10, (.int .i64 (a_list.length : Int))), (11, (.int .i64 k2))]) hF2 ?_
    refine ew_then ?_
    refine cw_seq ?_
    refine cw_region ?_
    refine lw_op rfl rfl rfl (ow_move rfl rfl ?_)
    refine lw_op rfl rfl rfl (ow_assign rfl rfl ?_)
    refine lw_nil ?_
    refine ew_then ?_
    refine cw_ret ?_
    obtain rfl := Option.some.inj h
    exact ew_ret (res1 rfl (.tmp rfl)) ⟨_, rfl, (by have hbt := hw4.freezeT hgt hC7 hO hY rfl; rw [show gs.map (·.2) = y2 from hgs] at hbt; exact hbt), hC7.bx⟩

theorem w_impl_FieldTop {w : World} {M : Nat → Prop} (hG : ARep (RArr 4 RShape) w M shapes ⟨0, 0, none⟩) (hO : ∀ b, M b → b < w.heap.size) {a_n : Int} {r : Int} (h : F.impl_FieldTop a_n = some r) :
  Calls Tryd.prog 142 [(.int .i64 a_n)].toArray w fun e w' => ∃ v, e = .returned v ∧ VRep RInt w' M r v ∧ BX No w w' := by
 have hC : Cx No w M w M := Cx.start hO (fun _ e => e.elim)
 refine walk (N := 13) Tryd.func142 Z Tryd.ntmps142 Z (cw_seq (cw_region (lw_op Z Z Z (ow_assign Z Z (lw_nil (ew_then (cw_seq (cw_seq (cw_region (lw_op Z Z Z (ow_move Z Z (lw_op Z Z Z (ow_lss Z Z Z fun bb1 hbb1 => lw_op Z Z Z (ow_move Z Z ?_))))))))))))))
 replace h := cond_some h
 rcases h with ⟨hc1, h⟩ | ⟨hc1, h⟩
 ·
  obtain rfl := hbb1.trans hc1
  refine lw_off Z Z Z Z Z Z (lw_off Z Z Z Z Z Z (lw_op Z Z Z (ow_pickT Z Z Z (lw_nil (ew_then (cw_true Z (cw_seq (cw_region (lw_op Z Z Z (ow_assign Z Z (lw_nil (ew_then (cw_ret (ew_thenR ?_))))))))))))))
  obtain rfl := sj h
  exact ew_ret (res1 Z (.tmp Z)) ⟨_, Z, ((vint _)), hC.bx⟩
 ·
  obtain rfl := hbb1.trans hc1
  refine lw_on Z Z Z Z Z Z (ow_move Z Z (lw_on Z Z Z Z Z Z (ow_geq Z Z Z fun bb2 hbb2 => lw_op Z Z Z (ow_pickF Z Z Z (lw_nil (ew_then ?_))))))
  replace h := cond_some h
  rcases h with ⟨hc2, h⟩ | ⟨hc2, h⟩
  ·
   obtain rfl := hbb2.trans hc2
   refine cw_true Z (cw_seq (cw_region (lw_op Z Z Z (ow_assign Z Z (lw_nil (ew_then (cw_ret (ew_thenR ?_))))))))
   obtain rfl := sj h
   exact ew_ret (res1 Z (.tmp Z)) ⟨_, Z, ((vint _)), hC.bx⟩
  ·
   obtain rfl := hbb2.trans hc2
   refine cw_false Z (cw_skip (ew_then (cw_seq (cw_region (lw_op Z Z Z (ow_move Z Z ?_))))))
   replace h := bind_some h
   obtain ⟨x1, hx1, h⟩ := h
   refine lw_op Z Z Z (ow_indexArr (R := RShape) Z Z Z hG Tryd.underlying135 (Tryd.sizeOf134 _) hx1 fun p1 hp1 => lw_op Z Z Z (ow_fieldAddr Z Z Tryd.underlying134 Z (Tryd.sizeOf3 _) (lw_op Z Z Z (ow_load (R := RInt) Z Z (hp1.fld fld_Shape_top) (Tryd.sizeOf3 _) (Tryd.isAgg3 _) fun v1 hv1 => ?_))))
   obtain rfl := vint_eq hv1
   refine lw_op Z Z Z (ow_assign Z Z (lw_nil (ew_then (cw_ret ?_))))
   obtain rfl := sj h
   exact ew_ret (res1 Z (.tmp Z)) ⟨_, Z, ((vint _)), hC.bx⟩

theorem w_impl_topValid {w : World} {M : Nat → Prop} (_hG : ARep (RArr 4 RShape) w M shapes ⟨0, 0, none⟩) (hO : ∀ b, M b → b < w.heap.size) {a_top : Int} {r : Bool} (h : F.impl_topValid a_top = some r) :
  Calls Tryd.prog 179 [(.int .i64 a_top)].toArray w fun e w' => ∃ v, e = .returned v ∧ VRep RBool w' M r v ∧ BX No w w' := by
 have hC : Cx No w M w M := Cx.start hO (fun _ e => e.elim)
 clear _hG
 refine walk (N := 9) Tryd.func179 Z Tryd.ntmps179 Z (cw_seq (cw_region (lw_op Z Z Z (ow_assign Z Z (lw_nil (ew_then (cw_seq (cw_region (lw_op Z Z Z (ow_move Z Z (lw_op Z Z Z (ow_geq Z Z Z fun bb1 hbb1 => lw_op Z Z Z (ow_move Z Z ?_)))))))))))))
 replace h := cond_some h
 rcases h with ⟨hc1, h⟩ | ⟨hc1, h⟩
 ·
  obtain rfl := hbb1.trans hc1
  refine lw_on Z Z Z Z Z Z (ow_move Z Z (lw_on Z Z Z Z Z Z (ow_leq Z Z Z fun bb2 hbb2 => lw_op Z Z Z (ow_pickT Z Z Z (lw_op Z Z Z (ow_assign Z Z (lw_nil (ew_then (cw_ret ?_)))))))))
  obtain rfl := sj h
  exact ew_ret (res1 Z (.tmp Z)) ⟨_, Z, ((vbool_of hbb2)), hC.bx⟩
 ·
  obtain rfl := hbb1.trans hc1
  refine lw_off Z Z Z Z Z Z (lw_off Z Z Z Z Z Z (lw_op Z Z Z (ow_pickF Z Z Z (lw_op Z Z Z (ow_assign Z Z (lw_nil (ew_then (cw_ret ?_))))))))
  obtain rfl := sj h
  exact ew_ret (res1 Z (.tmp Z)) ⟨_, Z, ((vbool _)), hC.bx⟩

theorem w_impl_SpansValid {w : World} {M : Nat → Prop} (hG : ARep (RArr 4 RShape) w M shapes ⟨0, 0, none⟩) (hO : ∀ b, M b → b < w.heap.size) {v0p : Value} {a_list : List Span} (h0 : VRep (RSlice RSpan) w M a_list v0p) {a_top : Int} {r : Bool} (h : F.impl_SpansValid a_list a_top = some r) :
  Calls Tryd.prog 151 [v0p, (.int .i64 a_top)].toArray w fun e w' => ∃ v, e = .returned v ∧ VRep RBool w' M r v ∧ BX No w w' := by
 have hC : Cx No w M w M := Cx.start hO (fun _ e => e.elim)
 refine walk (N := 43) Tryd.func151 Z Tryd.ntmps151 Z (cw_seq (cw_region (lw_op Z Z Z (ow_assign Z Z (lw_nil (ew_then (cw_seq (cw_seq (cw_region (lw_op Z Z Z (ow_move Z Z ?_)))))))))))
 replace h := bind_some h
 obtain ⟨x1, hx1, h⟩ := h
 refine lw_op Z Z Z (ow_call Z Z Tryd.call179 (w_impl_topValid hG hC.old hx1) fun v1 w1 hv1 => ?_)
 obtain ⟨hv1, hb1⟩ := hv1
 have hl1 := Le.no M hb1
 have hC1 := hC.no hb1
 obtain rfl := vbool_eq hv1
 refine lw_op Z Z Z (ow_not Z Z (lw_op Z Z Z (ow_move Z Z ?_)))
 replace h := cond_some h
 rcases h with ⟨hc1, h⟩ | ⟨hc1, h⟩
 ·
  subst hc1
  refine lw_on Z Z Z Z Z Z (ow_move Z Z (lw_on Z Z Z Z Z Z (ow_len Z Z (VRep.mono hl1 h0) Tryd.underlying121 Z (lw_on Z Z Z Z Z Z (ow_gtr Z Z Z fun bb1 hbb1 => lw_op Z Z Z (ow_pickF Z Z Z (lw_nil (ew_then ?_))))))))
  replace h := cond_some h
  rcases h with ⟨hc2, h⟩ | ⟨hc2, h⟩
  ·
   obtain rfl := hbb1.trans hc2
   refine cw_true Z (cw_seq (cw_region (lw_op Z Z Z (ow_assign Z Z (lw_nil (ew_then (cw_ret (ew_thenR ?_))))))))
   obtain rfl := sj h
   exact ew_ret (res1 Z (.tmp Z)) ⟨_, Z, ((vbool _)), hC1.bx⟩
  ·
   obtain rfl := hbb1.trans hc2
   refine cw_false Z (cw_skip (ew_then (cw_seq (cw_region (lw_op Z Z Z (ow_assign Z Z (lw_nil (ew_then (cw_seq (cw_seq (cw_region (lw_op Z Z Z (ow_move Z Z (lw_op Z Z Z (ow_len Z Z (VRep.mono hl1 h0) Tryd.underlying121 Z (lw_op Z Z Z (ow_move Z Z (lw_nil (ew_then ?_)))))))))))))))))))
   replace h := bind_some h
   obtain ⟨lr1, hlr1, h⟩ := h
   refine cw_for hlr1 (fun s a w' => ∃ (M' : Nat → Prop), Fits 43 [(1, (Zv a_top)), (5, (Zv s.1)), (16, v0p), (17, (Zv (a_list.length : Int))), (18, (Zv s.2))] a ∧ Le w1 M w' M' ∧ Cx No w M w' M') ?_ ?_ ?_
   · exact fun a ha => ⟨M, ha.sub ⟨Z, Z, Z, Z, Z, Zt⟩, Le.refl _ _, hC1⟩
   ·
    rintro ⟨k1, k2⟩ a w2 sr1 ⟨M1, hF1, hl2, hC2⟩ hb2 hR1
    refine cw_at (E := [(1, (Zv a_top)), (5, (Zv k1)), (16, v0p), (17, (Zv (a_list.length : Int))), (18, (Zv k2))]) hF1 (cw_seq (cw_region (lw_op Z Z Z (ow_lss Z Z Z fun bb2 hbb2 => lw_nil (ew_then (cw_seq ?_))))))
    replace hb2 := cond_some hb2
    rcases hb2 with ⟨hc3, hb2⟩ | ⟨hc3, hb2⟩
    ·
     obtain rfl := hbb2.trans hc3
     refine cw_true Z (cw_skip (ew_then (cw_seq (cw_block (cw_seq (cw_region ?_))))))
     replace hb2 := bind_some hb2
     obtain ⟨x2, hx2, hb2⟩ := hb2
     refine lw_op Z Z Z (ow_indexSlice (R := RSpan) Z Z Z (VRep.mono (hl1.trans hl2) h0) Tryd.underlying121 (Tryd.sizeOf120 _) hx2 fun p1 hp1 => lw_op Z Z Z (ow_load (R := RSpan) Z Z hp1 (Tryd.sizeOf120 _) (Tryd.isAgg120 _) fun v4 hv4 => lw_allocStore (R := RSpan) Z Z Z Z Z Z Z Tryd.zeroValue120 Tryd.sizeOf120 Z Z Z (by simp) hv4 hC2 fun p2 w3 hp2 hb3 hl3 hC3 => lw_nil (ew_then (cw_seq (cw_seq (cw_region (lw_op Z Z Z (ow_fieldAddr Z Z Tryd.underlying120 Z (Tryd.sizeOf3 _) (lw_op Z Z Z (ow_load (R := RInt) Z Z (hp2.fld fld_Span_Lo) (Tryd.sizeOf3 _) (Tryd.isAgg3 _) fun v5 hv5 => ?_))))))))))
     obtain rfl := vint_eq hv5
     refine lw_op Z Z Z (ow_move Z Z (lw_op Z Z Z (ow_add Z Z Z (lw_op Z Z Z (ow_leq Z Z Z fun bb3 hbb3 => lw_op Z Z Z (ow_move Z Z ?_))))))
     replace hb2 := cond_some hb2
     rcases hb2 with ⟨hc4, hb2⟩ | ⟨hc4, hb2⟩
     ·
      obtain rfl := hbb3.trans hc4
      refine lw_off Z Z Z Z Z Z (lw_off Z Z Z Z Z Z (lw_off Z Z Z Z Z Z (lw_off Z Z Z Z Z Z (lw_off Z Z Z Z Z Z (lw_op Z Z Z (ow_pickT Z Z Z (lw_op Z Z Z (ow_move Z Z (lw_off Z Z Z Z Z Z (lw_off Z Z Z Z Z Z (lw_off Z Z Z Z Z Z (lw_off Z Z Z Z Z Z (lw_op Z Z Z (ow_pickT Z Z Z (lw_nil (ew_then (cw_true Z (cw_seq (cw_region (lw_op Z Z Z (ow_assign Z Z (lw_nil (ew_then (cw_ret (ew_thenR (ew_blockR (ew_thenR (ew_thenR ?_))))))))))))))))))))))))))))
      refine ew_blockR (ew_brkR (ew_thenR ?_))
      have e1 := hR1 _ (sj hb2).symm
      subst e1
      obtain rfl := sj h
      exact ew_ret (res1 Z (.tmp Z)) ⟨_, Z, ((vbool _)), hC3.bx⟩
     ·
      obtain rfl := hbb3.trans hc4
      refine lw_on Z Z Z Z Z Z (ow_fieldAddr Z Z Tryd.underlying120 Z (Tryd.sizeOf3 _) (lw_on Z Z Z Z Z Z (ow_load (R := RInt) Z Z (hp2.fld fld_Span_Lo) (Tryd.sizeOf3 _) (Tryd.isAgg3 _) fun v6 hv6 => ?_)))
      obtain rfl := vint_eq hv6
      refine lw_on Z Z Z Z Z Z (ow_fieldAddr Z Z Tryd.underlying120 Z (Tryd.sizeOf3 _) (lw_on Z Z Z Z Z Z (ow_load (R := RInt) Z Z (hp2.fld fld_Span_Hi) (Tryd.sizeOf3 _) (Tryd.isAgg3 _) fun v7 hv7 => ?_)))
      obtain rfl := vint_eq hv7
      refine lw_on Z Z Z Z Z Z (ow_gtr Z Z Z fun bb4 hbb4 => lw_op Z Z Z (ow_pickF Z Z Z (lw_op Z Z Z (ow_move Z Z ?_))))
      replace hb2 := cond_some hb2
      rcases hb2 with ⟨hc5, hb2⟩ | ⟨hc5, hb2⟩
      ·
       obtain rfl := hbb4.trans hc5
       refine lw_off Z Z Z Z Z Z (lw_off Z Z Z Z Z Z (lw_off Z Z Z Z Z Z (lw_off Z Z Z Z Z Z (lw_op Z Z Z (ow_pickT Z Z Z (lw_nil (ew_then (cw_true Z (cw_seq (cw_region (lw_op Z Z Z (ow_assign Z Z (lw_nil (ew_then (cw_ret (ew_thenR (ew_blockR (ew_thenR (ew_thenR (ew_blockR (ew_brkR (ew_thenR ?_))))))))))))))))))))))
       have e2 := hR1 _ (sj hb2).symm
       subst e2
       obtain rfl := sj h
       exact ew_ret (res1 Z (.tmp Z)) ⟨_, Z, ((vbool _)), hC3.bx⟩
      ·
       obtain rfl := hbb4.trans hc5
       refine lw_on Z Z Z Z Z Z (ow_fieldAddr Z Z Tryd.underlying120 Z (Tryd.sizeOf3 _) (lw_on Z Z Z Z Z Z (ow_load (R := RInt) Z Z (hp2.fld fld_Span_Hi) (Tryd.sizeOf3 _) (Tryd.isAgg3 _) fun v8 hv8 => ?_)))
       obtain rfl := vint_eq hv8
       refine lw_on Z Z Z Z Z Z (ow_move Z Z (lw_on Z Z Z Z Z Z (ow_gtr Z Z Z fun bb5 hbb5 => lw_op Z Z Z (ow_pickF Z Z Z (lw_nil (ew_then ?_))))))
       replace hb2 := cond_some hb2
       rcases hb2 with ⟨hc6, hb2⟩ | ⟨hc6, hb2⟩
       ·
        obtain rfl := hbb5.trans hc6
        refine cw_true Z (cw_seq (cw_region (lw_op Z Z Z (ow_assign Z Z (lw_nil (ew_then (cw_ret (ew_thenR (ew_blockR (ew_thenR (ew_thenR (ew_blockR (ew_brkR (ew_thenR ?_))))))))))))))
        have e3 := hR1 _ (sj hb2).symm
        subst e3
        obtain rfl := sj h
        exact ew_ret (res1 Z (.tmp Z)) ⟨_, Z, ((vbool _)), hC3.bx⟩
       ·
        obtain rfl := hbb5.trans hc6
        refine cw_false Z (cw_skip (ew_then (cw_region (lw_op Z Z Z (ow_fieldAddr Z Z Tryd.underlying120 Z (Tryd.sizeOf3 _) (lw_op Z Z Z (ow_load (R := RInt) Z Z (hp2.fld fld_Span_Hi) (Tryd.sizeOf3 _) (Tryd.isAgg3 _) fun v9 hv9 => ?_)))))))
        obtain rfl := vint_eq hv9
        exact lw_op Z Z Z (ow_assign Z Z (lw_nil (ew_blockN (ew_then (cw_region (lw_op Z Z Z (ow_add Z Z Z (lw_op Z Z Z (ow_move Z Z (lw_nil (ew_nxt (x2.Hi, (W (k2 + 1))) hb2 fun a ha => ⟨M1, (ha.sub ⟨Z, Z, Z, Z, Z, Zt⟩), (hl2.trans hl3), hC3⟩)))))))))))
    ·
     obtain rfl := hbb2.trans hc3
     exact cw_false Z (cw_exit (ew_thenX (ew_thenX (ew_blockX (ew_brk (k1, k2) hb2 fun a ha => ⟨M1, (ha.sub ⟨Z, Z, Z, Z, Z, Zt⟩), hl2, hC2⟩)))))
   ·
    rintro ⟨k3, k4⟩ a w4 hlr2 ⟨M2, hF2, hl4, hC4⟩
    subst hlr2
    refine ew_at (E := [(1, (Zv a_top)), (5, (Zv k3)), (16, v0p), (17, (Zv (a_list.length : Int))), (18, (Zv k4))]) hF2 (ew_then (cw_seq (cw_region (lw_op Z Z Z (ow_assign Z Z (lw_nil (ew_then (cw_ret ?_))))))))
    obtain rfl := sj h
    exact ew_ret (res1 Z (.tmp Z)) ⟨_, Z, ((vbool _)), hC4.bx⟩
 ·
  subst hc1
  refine lw_off Z Z Z Z Z Z (lw_off Z Z Z Z Z Z (lw_off Z Z Z Z Z Z (lw_op Z Z Z (ow_pickT Z Z Z (lw_nil (ew_then (cw_true Z (cw_seq (cw_region (lw_op Z Z Z (ow_assign Z Z (lw_nil (ew_then (cw_ret (ew_thenR ?_)))))))))))))))
  obtain rfl := sj h
  exact ew_ret (res1 Z (.tmp Z)) ⟨_, Z, ((vbool _)), hC1.bx⟩

theorem w_impl_BoxValid {w : World} {M : Nat → Prop} (hG : ARep (RArr 4 RShape) w M shapes ⟨0, 0, none⟩) (hO : ∀ b, M b → b < w.heap.size) {v0p : Value} {a_b : Box} (h0 : VRep RBox w M a_b v0p) {r : Bool} (h : F.impl_BoxValid a_b = some r) :
  Calls Tryd.prog 90 [v0p].toArray w fun e w' => ∃ v, e = .returned v ∧ VRep RBool w' M r v ∧ BX No w w' := by
 have hC : Cx No w M w M := Cx.start hO (fun _ e => e.elim)
 refine walk (N := 23) Tryd.func90 Z Tryd.ntmps90 Z (cw_seq (cw_region (lw_op Z Z Z (ow_box (R := RBox) Z Z h0 hC fun p1 w1 hp1 hb1 hl1 hC1 => lw_op Z Z Z (ow_assign Z Z (lw_nil (ew_then (cw_seq (cw_seq (cw_region (lw_op Z Z Z (ow_fieldAddr Z Z Tryd.underlying48 Z (Tryd.sizeOf46 _) (lw_op Z Z Z (ow_load (R := (RSlice (RSlice RSpan))) Z Z (hp1.fld fld_Box_Sides) (Tryd.sizeOf46 _) (Tryd.isAgg46 _) fun v1 hv1 => lw_op Z Z Z (ow_len Z Z hv1 Tryd.underlying46 Z (lw_op Z Z Z (ow_neqI Z Z Z fun bb1 hbb1 => lw_nil (ew_then ?_))))))))))))))))))
 replace h := cond_some h
 rcases h with ⟨hc1, h⟩ | ⟨hc1, h⟩
 ·
  obtain rfl := hbb1.trans hc1
  refine cw_true Z (cw_seq (cw_region (lw_op Z Z Z (ow_assign Z Z (lw_nil (ew_then (cw_ret (ew_thenR ?_))))))))
  obtain rfl := sj h
  exact ew_ret (res1 Z (.tmp Z)) ⟨_, Z, ((vbool _)), hC1.bx⟩
 ·
  obtain rfl := hbb1.trans hc1
  refine cw_false Z (cw_skip (ew_then (cw_seq (cw_seq (cw_region (lw_op Z Z Z (ow_fieldAddr Z Z Tryd.underlying48 Z (Tryd.sizeOf46 _) (lw_op Z Z Z (ow_load (R := (RSlice (RSlice RSpan))) Z Z (hp1.fld fld_Box_Sides) (Tryd.sizeOf46 _) (Tryd.isAgg46 _) fun v2 hv2 => lw_op Z Z Z (ow_len Z Z hv2 Tryd.underlying46 Z (lw_op Z Z Z (ow_move Z Z (lw_nil (ew_then ?_))))))))))))))
  replace h := bind_some h
  obtain ⟨lr1, hlr1, h⟩ := h
  refine cw_for hlr1 (fun s a w' => ∃ (M' : Nat → Prop), Fits 23 [(10, v2), (11, (Zv (a_b.Sides.length : Int))), (12, (Zv s))] a ∧ Le w1 M w' M' ∧ Cx No w M w' M') ?_ ?_ ?_
  · exact fun a ha => ⟨M, ha.sub ⟨Z, Z, Z, Zt⟩, Le.refl _ _, hC1⟩
  ·
   rintro k1 a w2 sr1 ⟨M1, hF1, hl2, hC2⟩ hb2 hR1
   refine cw_at (E := [(10, v2), (11, (Zv (a_b.Sides.length : Int))), (12, (Zv k1))]) hF1 (cw_seq (cw_region (lw_op Z Z Z (ow_lss Z Z Z fun bb2 hbb2 => lw_nil (ew_then (cw_seq ?_))))))
   replace hb2 := cond_some hb2
   rcases hb2 with ⟨hc2, hb2⟩ | ⟨hc2, hb2⟩
   ·
    obtain rfl := hbb2.trans hc2
    refine cw_true Z (cw_skip (ew_then (cw_seq (cw_block (cw_seq (cw_region (lw_op Z Z Z (ow_move Z Z ?_))))))))
    replace hb2 := bind_some hb2
    obtain ⟨x1, hx1, hb2⟩ := hb2
    refine lw_op Z Z Z (ow_indexSlice (R := (RSlice RSpan)) Z Z Z (VRep.mono hl2 hv2) Tryd.underlying46 (Tryd.sizeOf121 _) hx1 fun p2 hp2 => lw_op Z Z Z (ow_load (R := (RSlice RSpan)) Z Z hp2 (Tryd.sizeOf121 _) (Tryd.isAgg121 _) fun v4 hv4 => lw_op Z Z Z (ow_assign Z Z (lw_op Z Z Z (ow_assign Z Z (lw_nil (ew_then (cw_seq (cw_region (lw_op Z Z Z (ow_move Z Z (lw_op Z Z Z (ow_move Z Z ?_)))))))))))))
    replace hb2 := bind_some hb2
    obtain ⟨x2, hx2, hb2⟩ := hb2
    refine lw_op Z Z Z (ow_call Z Z Tryd.call142 (w_impl_FieldTop (hG.mono (hl1.trans hl2)) hC2.old hx2) fun v5 w3 hv5 => ?_)
    obtain ⟨hv5, hb3⟩ := hv5
    have hl3 := Le.no M1 hb3
    have hC3 := hC2.no hb3
    obtain rfl := vint_eq hv5
    replace hb2 := bind_some hb2
    obtain ⟨x3, hx3, hb2⟩ := hb2
    have lz1 := ((hl1.trans hl2).trans hl3)
    refine lw_op Z Z Z (ow_call Z Z Tryd.call151 (w_impl_SpansValid (hG.mono lz1) hC3.old (VRep.mono hl3 hv4) hx3) fun v6 w4 hv6 => ?_)
    obtain ⟨hv6, hb4⟩ := hv6
    have hl4 := Le.no M1 hb4
    have hC4 := hC3.no hb4
    obtain rfl := vbool_eq hv6
    refine lw_op Z Z Z (ow_not Z Z (lw_nil (ew_then ?_)))
    replace hb2 := cond_some hb2
    rcases hb2 with ⟨hc3, hb2⟩ | ⟨hc3, hb2⟩
    ·
     subst hc3
     refine cw_false Z (cw_skip (ew_blockN (ew_then (cw_region (lw_op Z Z Z (ow_add Z Z Z (lw_op Z Z Z (ow_move Z Z (lw_nil ?_)))))))))
     have lz2 := ((hl2.trans hl3).trans hl4)
     exact ew_nxt (W (k1 + 1)) hb2 fun a ha => ⟨M1, (ha.sub ⟨Z, Z, Z, Zt⟩), lz2, hC4⟩
    ·
     subst hc3
     refine cw_true Z (cw_seq (cw_region (lw_op Z Z Z (ow_assign Z Z (lw_nil (ew_then (cw_ret (ew_blockR (ew_thenR (ew_thenR (ew_blockR (ew_brkR (ew_thenR ?_)))))))))))))
     have e1 := hR1 _ (sj hb2).symm
     subst e1
     obtain rfl := sj h
     exact ew_ret (res1 Z (.tmp Z)) ⟨_, Z, ((vbool _)), hC4.bx⟩
   ·
    obtain rfl := hbb2.trans hc2
    exact cw_false Z (cw_exit (ew_thenX (ew_thenX (ew_blockX (ew_brk k1 hb2 fun a ha => ⟨M1, (ha.sub ⟨Z, Z, Z, Zt⟩), hl2, hC2⟩)))))
  ·
   rintro k2 a w5 hlr2 ⟨M2, hF2, hl5, hC5⟩
   subst hlr2
   refine ew_at (E := [(10, v2), (11, (Zv (a_b.Sides.length : Int))), (12, (Zv k2))]) hF2 (ew_then (cw_seq (cw_region (lw_op Z Z Z (ow_assign Z Z (lw_nil (ew_then (cw_ret ?_))))))))
   obtain rfl := sj h
   exact ew_ret (res1 Z (.tmp Z)) ⟨_, Z, ((vbool _)), hC5.bx⟩

theorem w_impl_RegionValid {w : World} {M : Nat → Prop} (hG : ARep (RArr 4 RShape) w M shapes ⟨0, 0, none⟩) (hO : ∀ b, M b → b < w.heap.size) {v0p : Value} {a_list : List Box} (h0 : VRep (RSlice RBox) w M a_list v0p) {r : Bool} (h : F.impl_RegionValid a_list = some r) :
  Calls Tryd.prog 129 [v0p].toArray w fun e w' => ∃ v, e = .returned v ∧ VRep RBool w' M r v ∧ BX No w w' := by
 have hC : Cx No w M w M := Cx.start hO (fun _ e => e.elim)
 refine walk (N := 18) Tryd.func129 Z Tryd.ntmps129 Z (cw_seq (cw_region (lw_op Z Z Z (ow_assign Z Z (lw_nil (ew_then (cw_seq (cw_seq (cw_region (lw_op Z Z Z (ow_move Z Z (lw_op Z Z Z (ow_len Z Z h0 Tryd.underlying64 Z (lw_op Z Z Z (ow_gtr Z Z Z fun bb1 hbb1 => lw_nil (ew_then ?_))))))))))))))))
 replace h := cond_some h
 rcases h with ⟨hc1, h⟩ | ⟨hc1, h⟩
 ·
  obtain rfl := hbb1.trans hc1
  refine cw_true Z (cw_seq (cw_region (lw_op Z Z Z (ow_assign Z Z (lw_nil (ew_then (cw_ret (ew_thenR ?_))))))))
  obtain rfl := sj h
  exact ew_ret (res1 Z (.tmp Z)) ⟨_, Z, ((vbool _)), hC.bx⟩
 ·
  obtain rfl := hbb1.trans hc1
  refine cw_false Z (cw_skip (ew_then (cw_seq (cw_seq (cw_region (lw_op Z Z Z (ow_move Z Z (lw_op Z Z Z (ow_len Z Z h0 Tryd.underlying64 Z (lw_op Z Z Z (ow_move Z Z (lw_nil (ew_then ?_)))))))))))))
  replace h := bind_some h
  obtain ⟨lr1, hlr1, h⟩ := h
  refine cw_for hlr1 (fun s a w' => ∃ (M' : Nat → Prop), Fits 18 [(8, v0p), (9, (Zv (a_list.length : Int))), (10, (Zv s))] a ∧ Le w M w' M' ∧ Cx No w M w' M') ?_ ?_ ?_
  · exact fun a ha => ⟨M, ha.sub ⟨Z, Z, Z, Zt⟩, Le.refl _ _, hC⟩
  ·
   rintro k1 a w1 sr1 ⟨M1, hF1, hl1, hC1⟩ hb1 hR1
   refine cw_at (E := [(8, v0p), (9, (Zv (a_list.length : Int))), (10, (Zv k1))]) hF1 (cw_seq (cw_region (lw_op Z Z Z (ow_lss Z Z Z fun bb2 hbb2 => lw_nil (ew_then (cw_seq ?_))))))
   replace hb1 := cond_some hb1
   rcases hb1 with ⟨hc2, hb1⟩ | ⟨hc2, hb1⟩
   ·
    obtain rfl := hbb2.trans hc2
    refine cw_true Z (cw_skip (ew_then (cw_seq (cw_block (cw_seq (cw_region ?_))))))
    replace hb1 := bind_some hb1
    obtain ⟨x1, hx1, hb1⟩ := hb1
    refine lw_op Z Z Z (ow_indexSlice (R := RBox) Z Z Z (VRep.mono hl1 h0) Tryd.underlying64 (Tryd.sizeOf48 _) hx1 fun p1 hp1 => lw_op Z Z Z (ow_load (R := RBox) Z Z hp1 (Tryd.sizeOf48 _) (Tryd.isAgg48 _) fun v2 hv2 => lw_allocStore (R := RBox) Z Z Z Z Z Z Z Tryd.zeroValue48 Tryd.sizeOf48 Z Z Z (by simp) hv2 hC1 fun p2 w2 hp2 hb2 hl2 hC2 => lw_nil (ew_then (cw_seq (cw_region (lw_op Z Z Z (ow_load (R := RBox) Z Z hp2 (Tryd.sizeOf48 _) (Tryd.isAgg48 _) fun v3 hv3 => ?_)))))))
    replace hb1 := bind_some hb1
    obtain ⟨x2, hx2, hb1⟩ := hb1
    refine lw_op Z Z Z (ow_call Z Z Tryd.call90 (w_impl_BoxValid (hG.mono (hl1.trans hl2)) hC2.old hv3 hx2) fun v4 w3 hv4 => ?_)
    obtain ⟨hv4, hb3⟩ := hv4
    have hl3 := Le.no M1 hb3
    have hC3 := hC2.no hb3
    obtain rfl := vbool_eq hv4
    refine lw_op Z Z Z (ow_not Z Z (lw_nil (ew_then ?_)))
    replace hb1 := cond_some hb1
    rcases hb1 with ⟨hc3, hb1⟩ | ⟨hc3, hb1⟩
    ·
     subst hc3
     refine cw_false Z (cw_skip (ew_blockN (ew_then (cw_region (lw_op Z Z Z (ow_add Z Z Z (lw_op Z Z Z (ow_move Z Z (lw_nil ?_)))))))))
     have lz1 := ((hl1.trans hl2).trans hl3)
     exact ew_nxt (W (k1 + 1)) hb1 fun a ha => ⟨M1, (ha.sub ⟨Z, Z, Z, Zt⟩), lz1, hC3⟩
    ·
     subst hc3
     refine cw_true Z (cw_seq (cw_region (lw_op Z Z Z (ow_assign Z Z (lw_nil (ew_then (cw_ret (ew_blockR (ew_thenR (ew_thenR (ew_blockR (ew_brkR (ew_thenR ?_)))))))))))))
     have e1 := hR1 _ (sj hb1).symm
     subst e1
     obtain rfl := sj h
     exact ew_ret (res1 Z (.tmp Z)) ⟨_, Z, ((vbool _)), hC3.bx⟩
   ·
    obtain rfl := hbb2.trans hc2
    exact cw_false Z (cw_exit (ew_thenX (ew_thenX (ew_blockX (ew_brk k1 hb1 fun a ha => ⟨M1, (ha.sub ⟨Z, Z, Z, Zt⟩), hl1, hC1⟩)))))
  ·
   rintro k2 a w4 hlr2 ⟨M2, hF2, hl4, hC4⟩
   subst hlr2
   refine ew_at (E := [(8, v0p), (9, (Zv (a_list.length : Int))), (10, (Zv k2))]) hF2 (ew_then (cw_seq (cw_region (lw_op Z Z Z (ow_assign Z Z (lw_nil (ew_then (cw_ret ?_))))))))
   obtain rfl := sj h
   exact ew_ret (res1 Z (.tmp Z)) ⟨_, Z, ((vbool _)), hC4.bx⟩

theorem w_impl_stretch {w : World} {M : Nat → Prop} (_hG : ARep (RArr 4 RShape) w M shapes ⟨0, 0, none⟩) (hO : ∀ b, M b → b < w.heap.size) {v0p : Value} {a_rest : List Span} (h0 : VRep (RSlice RSpan) w M a_rest v0p) {a_at : Int} {a_top : Int} {r : Bool × Int} (h : F.impl_stretch a_rest a_at a_top = some r) :
  Calls Tryd.prog 193 [v0p, (.int .i64 a_at), (.int .i64 a_top)].toArray w fun e w' => ∃ v, e = .returned v ∧ (∃ u0 u1, v = .tuple #[u0, u1] ∧ VRep RBool w' M r.1 u0 ∧ VRep RInt w' M r.2 u1) ∧ BX No w w' := by
 have hC : Cx No w M w M := Cx.start hO (fun _ e => e.elim)
 clear _hG
 refine walk (N := 27) Tryd.func193 Z Tryd.ntmps193 Z (cw_seq (cw_region (lw_op Z Z Z (ow_assign Z Z (lw_op Z Z Z (ow_assign Z Z (lw_nil (ew_then (cw_seq (cw_seq (cw_region (lw_op Z Z Z (ow_move Z Z (lw_op Z Z Z (ow_len Z Z h0 Tryd.underlying121 Z (lw_op Z Z Z (ow_eqlI Z Z Z fun bb1 hbb1 => lw_nil (ew_then ?_))))))))))))))))))
 replace h := cond_some h
 rcases h with ⟨hc1, h⟩ | ⟨hc1, h⟩
 ·
  obtain rfl := hbb1.trans hc1
  refine cw_true Z (cw_seq (cw_region (lw_op Z Z Z (ow_move Z Z (lw_op Z Z Z (ow_assign Z Z (lw_op Z Z Z (ow_assign Z Z (lw_nil (ew_then (cw_ret (ew_thenR ?_))))))))))))
  obtain rfl := sj h
  exact ew_ret (res2 Z (.tmp Z) (.tmp Z)) ⟨_, Z, ⟨_, _, Z, ((vbool _)), ((vint _))⟩, hC.bx⟩
 ·
  obtain rfl := hbb1.trans hc1
  refine cw_false Z (cw_skip (ew_then (cw_seq (cw_seq (cw_region (lw_op Z Z Z (ow_move Z Z (lw_op Z Z Z (ow_move Z Z ?_)))))))))
  replace h := bind_some h
  obtain ⟨x1, hx1, h⟩ := h
  refine lw_op Z Z Z (ow_indexSlice (R := RSpan) Z Z Z h0 Tryd.underlying121 (Tryd.sizeOf120 _) hx1 fun p1 hp1 => lw_op Z Z Z (ow_fieldAddr Z Z Tryd.underlying120 Z (Tryd.sizeOf3 _) (lw_op Z Z Z (ow_load (R := RInt) Z Z (hp1.fld fld_Span_Lo) (Tryd.sizeOf3 _) (Tryd.isAgg3 _) fun v1 hv1 => ?_))))
  obtain rfl := vint_eq hv1
  refine lw_op Z Z Z (ow_lss Z Z Z fun bb2 hbb2 => lw_nil (ew_then ?_))
  replace h := cond_some h
  rcases h with ⟨hc2, h⟩ | ⟨hc2, h⟩
  ·
   obtain rfl := hbb2.trans hc2
   refine cw_true Z (cw_seq (cw_sub (E' := [(0, v0p), (7, (Zv 0))]) ⟨Z, Z, Zt⟩ (cw_drawQ 6 [PV (RSlice RSpan) M a_rest, PA RSpan M x1, PA RInt M x1.Lo, PEq (Zv x1.Lo), PEq (Zv (W (x1.Lo - 1))), PEq (.bool false)] (by kernel_rfl) Z (by kernel_rfl) ⟨PV.mono _ _ _, PA.mono _ _ _, PA.mono _ _ _, Zq, Zq, Zq, Zt⟩ ⟨?_, ?_, ?_, ?_, ?_, ?_, Zt⟩ ?_)))
   ·
    intro w1 D hS1 hd1
    have hl1 := Le.no M hS1
    exact dg_sub (E' := [(0, v0p)]) ⟨Z, Zt⟩ (dg_plain Z (ow_move Z Z ⟨BX.refl _ _, (VRep.mono hl1 h0)⟩))
   ·
    intro w2 D hS2 hd2
    have d1 : PV (RSlice RSpan) M a_rest (D 0) w2 := dpA hd2 0 Z
    generalize hq1 : (D 0) = v3 at d1
    exact dg_sub (E' := [(18, v3)]) ⟨congrArg some hq1, Zt⟩ (dg_plain Z (ow_indexSlice (R := RSpan) Z Z Z d1 Tryd.underlying121 (Tryd.sizeOf120 _) hx1 fun p3 hp3 => ⟨BX.refl _ _, ⟨_, Z, hp3⟩⟩))
   ·
    intro w3 D hS3 hd3
    have d2 : PA RSpan M x1 (D 1) w3 := dpA hd3 1 Z
    obtain ⟨p4, e1, ha1⟩ := d2
    exact dg_sub (E' := [(19, (.pointer (some p4)))]) ⟨congrArg some e1, Zt⟩ (dg_plain Z (ow_fieldAddr Z Z Tryd.underlying120 Z (Tryd.sizeOf3 _) ⟨BX.refl _ _, ⟨_, Z, (ha1.fld fld_Span_Lo)⟩⟩))
   ·
    intro w4 D hS4 hd4
    have d3 : PA RInt M x1.Lo (D 2) w4 := dpA hd4 2 Z
    obtain ⟨p5, e2, ha2⟩ := d3
    refine dg_sub (E' := [(20, (.pointer (some p5)))]) ⟨congrArg some e2, Zt⟩ (dg_plain Z (ow_load (R := RInt) Z Z ha2 (Tryd.sizeOf3 _) (Tryd.isAgg3 _) fun v4 hv4 => ?_))
    obtain rfl := vint_eq hv4
    exact Zb
   · exact fun w5 D hS5 hd5 => dg_sub (E' := [(21, (Zv x1.Lo))]) ⟨dpE hd5 3 Z Z, Zt⟩ (dg_plain Z (ow_sub Z Z Z Zb))
   · exact fun w6 D hS6 hd6 => dg_sub (E' := []) trivial (dg_plain Z (ow_assign Z Z Zb))
   ·
    intro w7 D hS7 hd7
    have hC7 := hC.no hS7
    refine lw_sub (E' := [(22, (Zv (W (x1.Lo - 1)))), (6, (.bool false)), (0, v0p), (7, (Zv 0))]) ⟨dpE hd7 4 Z Z, dpE hd7 5 Z Z, Z, Z, Zt⟩ (lw_op Z Z Z (ow_assign Z Z (lw_nil (ew_then (cw_ret (ew_thenR ?_))))))
    obtain rfl := sj h
    exact ew_ret (res2 Z (.tmp Z) (.tmp Z)) ⟨_, Z, ⟨_, _, Z, ((vbool _)), ((vint _))⟩, hC7.bx⟩
  ·
   obtain rfl := hbb2.trans hc2
   refine cw_false Z (cw_skip (ew_then (cw_seq (cw_sub (E' := [(0, v0p), (7, (Zv 0))]) ⟨Z, Z, Zt⟩ (cw_drawQ 5 [PV (RSlice RSpan) M a_rest, PA RSpan M x1, PA RInt M x1.Hi, PEq (Zv x1.Hi), PEq (.bool true)] (by kernel_rfl) Z (by kernel_rfl) ⟨PV.mono _ _ _, PA.mono _ _ _, PA.mono _ _ _, Zq, Zq, Zt⟩ ⟨?_, ?_, ?_, ?_, ?_, Zt⟩ ?_)))))
   ·
    intro w8 D hS8 hd8
    have hl8 := Le.no M hS8
    exact dg_sub (E' := [(0, v0p)]) ⟨Z, Zt⟩ (dg_plain Z (ow_move Z Z ⟨BX.refl _ _, (VRep.mono hl8 h0)⟩))
   ·
    intro w9 D hS9 hd9
    have d11 : PV (RSlice RSpan) M a_rest (D 0) w9 := dpA hd9 0 Z
    generalize hq2 : (D 0) = v6 at d11
    exact dg_sub (E' := [(23, v6)]) ⟨congrArg some hq2, Zt⟩ (dg_plain Z (ow_indexSlice (R := RSpan) Z Z Z d11 Tryd.underlying121 (Tryd.sizeOf120 _) hx1 fun p7 hp7 => ⟨BX.refl _ _, ⟨_, Z, hp7⟩⟩))
   ·
    intro w10 D hS10 hd10
    have d12 : PA RSpan M x1 (D 1) w10 := dpA hd10 1 Z
    obtain ⟨p8, e3, ha3⟩ := d12
    exact dg_sub (E' := [(24, (.pointer (some p8)))]) ⟨congrArg some e3, Zt⟩ (dg_plain Z (ow_fieldAddr Z Z Tryd.underlying120 Z (Tryd.sizeOf3 _) ⟨BX.refl _ _, ⟨_, Z, (ha3.fld fld_Span_Hi)⟩⟩))
   ·
    intro w11 D hS11 hd11
    have d13 : PA RInt M x1.Hi (D 2) w11 := dpA hd11 2 Z
    obtain ⟨p9, e4, ha4⟩ := d13
    refine dg_sub (E' := [(25, (.pointer (some p9)))]) ⟨congrArg some e4, Zt⟩ (dg_plain Z (ow_load (R := RInt) Z Z ha4 (Tryd.sizeOf3 _) (Tryd.isAgg3 _) fun v7 hv7 => ?_))
    obtain rfl := vint_eq hv7
    exact Zb
   · exact fun w12 D hS12 hd12 => dg_sub (E' := []) trivial (dg_plain Z (ow_assign Z Z Zb))
   ·
    intro w13 D hS13 hd13
    have hC13 := hC.no hS13
    refine lw_sub (E' := [(26, (Zv x1.Hi)), (6, (.bool true)), (0, v0p), (7, (Zv 0))]) ⟨dpE hd13 3 Z Z, dpE hd13 4 Z Z, Z, Z, Zt⟩ (lw_op Z Z Z (ow_assign Z Z (lw_nil (ew_then (cw_ret ?_)))))
    obtain rfl := sj h
    exact ew_ret (res2 Z (.tmp Z) (.tmp Z)) ⟨_, Z, ⟨_, _, Z, ((vbool _)), ((vint _))⟩, hC13.bx⟩

theorem w_impl_limitSpans {w : World} {M : Nat → Prop} (_hG : ARep (RArr 4 RShape) w M shapes ⟨0, 0, none⟩) (hO : ∀ b, M b → b < w.heap.size) {v0p : Value} {a_list : List Span} (h0 : VRep (RSlice RSpan) w M a_list v0p) {r : (List Span) × Bool} (h : F.impl_limitSpans a_list = some r) :
  Calls Tryd.prog 181 [v0p].toArray w fun e w' => ∃ v, e = .returned v ∧ (∃ u0 u1, v = .tuple #[u0, u1] ∧ VRep (RSlice RSpan) w' M r.1 u0 ∧ VRep RBool w' M r.2 u1) ∧ BX No w w' := by
 have hC : Cx No w M w M := Cx.start hO (fun _ e => e.elim)
 clear _hG
 refine walk (N := 8) Tryd.func181 Z Tryd.ntmps181 Z (cw_seq (cw_region (lw_op Z Z Z (ow_assign Z Z (lw_op Z Z Z (ow_assign Z Z (lw_nil (ew_then (cw_seq (cw_seq (cw_region (lw_op Z Z Z (ow_move Z Z (lw_op Z Z Z (ow_len Z Z h0 Tryd.underlying121 Z (lw_op Z Z Z (ow_gtr Z Z Z fun bb1 hbb1 => lw_nil (ew_then ?_))))))))))))))))))
 replace h := cond_some h
 rcases h with ⟨hc1, h⟩ | ⟨hc1, h⟩
 ·
  obtain rfl := hbb1.trans hc1
  refine cw_true Z (cw_seq (cw_region (lw_op Z Z Z (ow_assign Z Z (lw_op Z Z Z (ow_assign Z Z (lw_nil (ew_then (cw_ret (ew_thenR ?_))))))))))
  obtain rfl := sj h
  exact ew_ret (res2 Z (.tmp Z) (.tmp Z)) ⟨_, Z, ⟨_, _, Z, (VRep.mono hC.back (vslice_nil (R := RSpan) (w := w) (M := M))), ((vbool _))⟩, hC.bx⟩
 ·
  obtain rfl := hbb1.trans hc1
  refine cw_false Z (cw_skip (ew_then (cw_seq (cw_region (lw_op Z Z Z (ow_move Z Z (lw_op Z Z Z (ow_assign Z Z (lw_op Z Z Z (ow_assign Z Z (lw_nil (ew_then (cw_ret ?_)))))))))))))
  obtain rfl := sj h
  exact ew_ret (res2 Z (.tmp Z) (.tmp Z)) ⟨_, Z, ⟨_, _, Z, (VRep.mono hC.back h0), ((vbool _))⟩, hC.bx⟩

theorem w_impl_inBoth {w : World} {M : Nat → Prop} (_hG : ARep (RArr 4 RShape) w M shapes ⟨0, 0, none⟩) (hO : ∀ b, M b → b < w.heap.size) {b0 a_inA : Bool} (h0 : b0 = a_inA) {b1 a_inB : Bool} (h1 : b1 = a_inB) {r : Bool} (h : F.impl_inBoth a_inA a_inB = some r) :
  Calls Tryd.prog 182 [(.bool b0), (.bool b1)].toArray w fun e w' => ∃ v, e = .returned v ∧ VRep RBool w' M r v ∧ BX No w w' := by
 have hC : Cx No w M w M := Cx.start hO (fun _ e => e.elim)
 clear _hG
 refine walk (N := 9) Tryd.func182 Z Tryd.ntmps182 Z (cw_seq (cw_region (lw_op Z Z Z (ow_assign Z Z (lw_nil (ew_then (cw_seq (cw_region (lw_op Z Z Z (ow_move Z Z (lw_op Z Z Z (ow_move Z Z ?_))))))))))))
 replace h := cond_some h
 rcases h with ⟨hc1, h⟩ | ⟨hc1, h⟩
 ·
  obtain rfl := h0.trans hc1
  refine lw_on Z Z Z Z Z Z (ow_move Z Z (lw_op Z Z Z (ow_pickT Z Z Z (lw_op Z Z Z (ow_assign Z Z (lw_nil (ew_then (cw_ret ?_))))))))
  obtain rfl := sj h
  exact ew_ret (res1 Z (.tmp Z)) ⟨_, Z, ((vbool_of h1)), hC.bx⟩
 ·
  obtain rfl := h0.trans hc1
  refine lw_off Z Z Z Z Z Z (lw_op Z Z Z (ow_pickF Z Z Z (lw_op Z Z Z (ow_assign Z Z (lw_nil (ew_then (cw_ret ?_)))))))
  obtain rfl := sj h
  exact ew_ret (res1 Z (.tmp Z)) ⟨_, Z, ((vbool _)), hC.bx⟩

theorem w_impl_sweepSpans__impl_inBoth {w : World} {M : Nat → Prop} (hG : ARep (RArr 4 RShape) w M shapes ⟨0, 0, none⟩) (hO : ∀ b, M b → b < w.heap.size) {v0p : Value} {a_a : List Span} (h0 : VRep (RSlice RSpan) w M a_a v0p) {v1p : Value} {a_b : List Span} (h1 : VRep (RSlice RSpan) w M a_b v1p) {a_top : Int} {r : (List Span)} (h : F.impl_sweepSpans__impl_inBoth a_a a_b a_top = some r) :
  Calls Tryd.prog 169 [v0p, v1p, (.int .i64 a_top), (.func (.func 182) #[] #[])].toArray w fun e w' => ∃ v, e = .returned v ∧ VRep (RSlice RSpan) w' M r v ∧ BX No w w' := by
 obtain ⟨i120, hi120, hz120, hs120, hy120⟩ := info120
 have hC : Cx No w M w M := Cx.start hO (fun _ e => e.elim)
 refine walk (N := 107) Tryd.func169 Z Tryd.ntmps169 Z (cw_seq (cw_region (lw_op Z Z Z (ow_assign Z Z (lw_nil (ew_then (cw_seq (cw_region (lw_op Z Z Z (ow_assign Z Z (lw_nil (ew_then (cw_seq (cw_region (lw_op Z Z Z (ow_assign Z Z (lw_op Z Z Z (ow_assign Z Z (lw_nil (ew_then (cw_seq (cw_seq (cw_region (lw_op Z Z Z (ow_assign Z Z (lw_nil (ew_then ?_)))))))))))))))))))))))))))
 have hr1 : OwnRow RSpan w.heap.size 120 w M ([] : List Span) (.slice none 0 0) := ownrow_nil
 replace h := bind_some h
 obtain ⟨lr1, hlr1, h⟩ := h
 refine cw_for hlr1 (fun s a w' => ∃ (M' : Nat → Prop) (v0c : Value), Fits 107 [(0, v0p), (1, v1p), (2, (Zv a_top)), (3, (.func (.func 182) #[] #[])), (9, v0c), (10, (Zv s.2.1)), (11, (Zv s.2.2.1)), (12, (Zv s.2.2.2))] a ∧ Le w M w' M' ∧ Cx No w M w' M' ∧ OwnRow RSpan w.heap.size 120 w' M' s.1 v0c) ?_ ?_ ?_
 · exact fun a ha => ⟨M, (.slice none 0 0), ha.sub ⟨Z, Z, Z, Z, Z, Z, Z, Z, Zt⟩, Le.refl _ _, hC, hr1⟩
 ·
  rintro ⟨y1, k1, k2, k3⟩ a w1 sr1 ⟨M1, v1, hF1, hl1, hC1, hw1⟩ hb1 hR1
  refine cw_at (E := [(0, v0p), (1, v1p), (2, (Zv a_top)), (3, (.func (.func 182) #[] #[])), (9, v1), (10, (Zv k1)), (11, (Zv k2)), (12, (Zv k3))]) hF1 (cw_seq (cw_seq (cw_region (lw_op Z Z Z (ow_move Z Z (lw_op Z Z Z (ow_move Z Z (lw_op Z Z Z (ow_leq Z Z Z fun bb1 hbb1 => lw_nil (ew_then ?_))))))))))
  replace hb1 := cond_some hb1
  rcases hb1 with ⟨hc1, hb1⟩ | ⟨hc1, hb1⟩
  ·
   obtain rfl := hbb1.trans hc1
   refine cw_true Z (cw_skip (ew_then (cw_block (cw_seq ?_))))
   replace hb1 := bind_some hb1
   obtain ⟨lr2, hlr2, hb1⟩ := hb1
   refine cw_for hlr2 (fun s a w' => ∃ (M' : Nat → Prop), Fits 107 [(0, v0p), (1, v1p), (2, (Zv a_top)), (3, (.func (.func 182) #[] #[])), (9, v1), (10, (Zv s.1)), (11, (Zv k2)), (12, (Zv k3))] a ∧ Le w1 M1 w' M' ∧ Cx No w M w' M' ∧ OwnRow RSpan w.heap.size 120 w' M' s.2 v1) ?_ ?_ ?_
   · exact fun a ha => ⟨M1, ha.sub ⟨Z, Z, Z, Z, Z, Z, Z, Z, Zt⟩, Le.refl _ _, hC1, hw1⟩
   ·
    rintro ⟨k4, y2⟩ a w2 sr2 ⟨M2, hF2, hl2, hC2, hw2⟩ hb2 hR2
    refine cw_at (E := [(0, v0p), (1, v1p), (2, (Zv a_top)), (3, (.func (.func 182) #[] #[])), (9, v1), (10, (Zv k4)), (11, (Zv k2)), (12, (Zv k3))]) hF2 (cw_seq (cw_seq (cw_region (lw_op Z Z Z (ow_move Z Z (lw_op Z Z Z (ow_move Z Z (lw_op Z Z Z (ow_len Z Z (VRep.mono (hl1.trans hl2) h0) Tryd.underlying121 Z (lw_op Z Z Z (ow_lss Z Z Z fun bb2 hbb2 => lw_op Z Z Z (ow_move Z Z ?_))))))))))))
    replace hb2 := cond_some hb2
    rcases hb2 with ⟨hc2, hb2⟩ | ⟨hc2, hb2⟩
    ·
     obtain rfl := hbb2.trans hc2
     refine lw_on Z Z Z Z Z Z (ow_move Z Z (lw_on Z Z Z Z Z Z (ow_move Z Z ?_)))
     replace hb2 := bind_some hb2
     obtain ⟨x1, hx1, hb2⟩ := hb2
     refine lw_on Z Z Z Z Z Z (ow_indexSlice (R := RSpan) Z Z Z (VRep.mono (hl1.trans hl2) h0) Tryd.underlying121 (Tryd.sizeOf120 _) hx1 fun p1 hp1 => lw_on Z Z Z Z Z Z (ow_fieldAddr Z Z Tryd.underlying120 Z (Tryd.sizeOf3 _) (lw_on Z Z Z Z Z Z (ow_load (R := RInt) Z Z (hp1.fld fld_Span_Hi) (Tryd.sizeOf3 _) (Tryd.isAgg3 _) fun v7 hv7 => ?_))))
     obtain rfl := vint_eq hv7
     refine lw_on Z Z Z Z Z Z (ow_move Z Z (lw_on Z Z Z Z Z Z (ow_lss Z Z Z fun bb3 hbb3 => lw_op Z Z Z (ow_pickT Z Z Z (lw_nil (ew_then ?_))))))
     replace hb2 := cond_some hb2
     rcases hb2 with ⟨hc3, hb2⟩ | ⟨hc3, hb2⟩
     ·
      obtain rfl := hbb3.trans hc3
      exact cw_true Z (cw_skip (ew_then (cw_block (cw_region (lw_op Z Z Z (ow_move Z Z (lw_op Z Z Z (ow_add Z Z Z (lw_op Z Z Z (ow_assign Z Z (lw_nil (ew_blockN (ew_nxt ((W (k4 + 1)), y2) hb2 fun a ha => ⟨M2, (ha.sub ⟨Z, Z, Z, Z, Z, Z, Z, Z, Zt⟩), hl2, hC2, hw2⟩)))))))))))))
     ·
      obtain rfl := hbb3.trans hc3
      exact cw_false Z (cw_exit (ew_thenX (ew_thenX (ew_blockX (ew_brk (k4, y2) hb2 fun a ha => ⟨M2, (ha.sub ⟨Z, Z, Z, Z, Z, Z, Z, Z, Zt⟩), hl2, hC2, hw2⟩)))))
    ·
     obtain rfl := hbb2.trans hc2
     exact lw_off Z Z Z Z Z Z (lw_off Z Z Z Z Z Z (lw_off Z Z Z Z Z Z (lw_off Z Z Z Z Z Z (lw_off Z Z Z Z Z Z (lw_off Z Z Z Z Z Z (lw_off Z Z Z Z Z Z (lw_op Z Z Z (ow_pickF Z Z Z (lw_nil (ew_then (cw_false Z (cw_exit (ew_thenX (ew_thenX (ew_blockX (ew_brk (k4, y2) hb2 fun a ha => ⟨M2, (ha.sub ⟨Z, Z, Z, Z, Z, Z, Z, Z, Zt⟩), hl2, hC2, hw2⟩))))))))))))))))
   ·
    rintro ⟨k5, y3⟩ a w3 hlr3 ⟨M3, hF3, hl3, hC3, hw3⟩
    subst hlr3
    refine ew_at (E := [(0, v0p), (1, v1p), (2, (Zv a_top)), (3, (.func (.func 182) #[] #[])), (9, v1), (10, (Zv k5)), (11, (Zv k2)), (12, (Zv k3))]) hF3 (ew_then (cw_seq ?_))
    replace hb1 := bind_some hb1
    obtain ⟨lr3, hlr4, hb1⟩ := hb1
    refine cw_for hlr4 (fun s a w' => ∃ (M' : Nat → Prop), Fits 107 [(0, v0p), (1, v1p), (2, (Zv a_top)), (3, (.func (.func 182) #[] #[])), (9, v1), (10, (Zv k5)), (11, (Zv s.1)), (12, (Zv k3))] a ∧ Le w3 M3 w' M' ∧ Cx No w M w' M' ∧ OwnRow RSpan w.heap.size 120 w' M' s.2 v1) ?_ ?_ ?_
    · exact fun a ha => ⟨M3, ha.sub ⟨Z, Z, Z, Z, Z, Z, Z, Z, Zt⟩, Le.refl _ _, hC3, hw3⟩
    ·
     rintro ⟨k6, y4⟩ a w4 sr3 ⟨M4, hF4, hl4, hC4, hw4⟩ hb3 hR3
     refine cw_at (E := [(0, v0p), (1, v1p), (2, (Zv a_top)), (3, (.func (.func 182) #[] #[])), (9, v1), (10, (Zv k5)), (11, (Zv k6)), (12, (Zv k3))]) hF4 (cw_seq (cw_seq (cw_region (lw_op Z Z Z (ow_move Z Z (lw_op Z Z Z (ow_move Z Z ?_)))))))
     have lz1 := ((hl1.trans hl3).trans hl4)
     refine lw_op Z Z Z (ow_len Z Z (VRep.mono lz1 h1) Tryd.underlying121 Z (lw_op Z Z Z (ow_lss Z Z Z fun bb4 hbb4 => lw_op Z Z Z (ow_move Z Z ?_))))
     replace hb3 := cond_some hb3
     rcases hb3 with ⟨hc4, hb3⟩ | ⟨hc4, hb3⟩
     ·
      obtain rfl := hbb4.trans hc4
      refine lw_on Z Z Z Z Z Z (ow_move Z Z (lw_on Z Z Z Z Z Z (ow_move Z Z ?_)))
      replace hb3 := bind_some hb3
      obtain ⟨x2, hx2, hb3⟩ := hb3
      refine lw_on Z Z Z Z Z Z (ow_indexSlice (R := RSpan) Z Z Z (VRep.mono lz1 h1) Tryd.underlying121 (Tryd.sizeOf120 _) hx2 fun p2 hp2 => lw_on Z Z Z Z Z Z (ow_fieldAddr Z Z Tryd.underlying120 Z (Tryd.sizeOf3 _) (lw_on Z Z Z Z Z Z (ow_load (R := RInt) Z Z (hp2.fld fld_Span_Hi) (Tryd.sizeOf3 _) (Tryd.isAgg3 _) fun v12 hv12 => ?_))))
      obtain rfl := vint_eq hv12
      refine lw_on Z Z Z Z Z Z (ow_move Z Z (lw_on Z Z Z Z Z Z (ow_lss Z Z Z fun bb5 hbb5 => lw_op Z Z Z (ow_pickT Z Z Z (lw_nil (ew_then ?_))))))
      replace hb3 := cond_some hb3
      rcases hb3 with ⟨hc5, hb3⟩ | ⟨hc5, hb3⟩
      ·
       obtain rfl := hbb5.trans hc5
       exact cw_true Z (cw_skip (ew_then (cw_block (cw_region (lw_op Z Z Z (ow_move Z Z (lw_op Z Z Z (ow_add Z Z Z (lw_op Z Z Z (ow_assign Z Z (lw_nil (ew_blockN (ew_nxt ((W (k6 + 1)), y4) hb3 fun a ha => ⟨M4, (ha.sub ⟨Z, Z, Z, Z, Z, Z, Z, Z, Zt⟩), hl4, hC4, hw4⟩)))))))))))))
      ·
       obtain rfl := hbb5.trans hc5
       exact cw_false Z (cw_exit (ew_thenX (ew_thenX (ew_blockX (ew_brk (k6, y4) hb3 fun a ha => ⟨M4, (ha.sub ⟨Z, Z, Z, Z, Z, Z, Z, Z, Zt⟩), hl4, hC4, hw4⟩)))))
     ·
      obtain rfl := hbb4.trans hc4
      exact lw_off Z Z Z Z Z Z (lw_off Z Z Z Z Z Z (lw_off Z Z Z Z Z Z (lw_off Z Z Z Z Z Z (lw_off Z Z Z Z Z Z (lw_off Z Z Z Z Z Z (lw_off Z Z Z Z Z Z (lw_op Z Z Z (ow_pickF Z Z Z (lw_nil (ew_then (cw_false Z (cw_exit (ew_thenX (ew_thenX (ew_blockX (ew_brk (k6, y4) hb3 fun a ha => ⟨M4, (ha.sub ⟨Z, Z, Z, Z, Z, Z, Z, Z, Zt⟩), hl4, hC4, hw4⟩))))))))))))))))
    ·
     rintro ⟨k7, y5⟩ a w5 hlr5 ⟨M5, hF5, hl5, hC5, hw5⟩
     subst hlr5
     refine ew_at (E := [(0, v0p), (1, v1p), (2, (Zv a_top)), (3, (.func (.func 182) #[] #[])), (9, v1), (10, (Zv k5)), (11, (Zv k7)), (12, (Zv k3))]) hF5 (ew_then (cw_seq (cw_region (lw_op Z Z Z (ow_move Z Z (lw_op Z Z Z (ow_move Z Z ?_)))))))
     replace hb1 := bind_some hb1
     obtain ⟨y6, hy6, hb1⟩ := hb1
     have lz2 := ((hl1.trans hl3).trans hl5)
     refine lw_op Z Z Z (ow_sliceFrom (R := RSpan) Z Z Z (VRep.mono lz2 h0) Tryd.underlying121 (Tryd.sizeOf120 _) (dropF_some hy6).2 fun v15 hv15 => ?_)
     rw [← (dropF_some hy6).1] at hv15
     refine lw_op Z Z Z (ow_move Z Z (lw_op Z Z Z (ow_move Z Z ?_)))
     replace hb1 := bind_some hb1
     obtain ⟨x3, hx3, hb1⟩ := hb1
     refine lw_op Z Z Z (ow_call Z Z Tryd.call193 (w_impl_stretch (hG.mono lz2) hC5.old hv15 hx3) fun v16 w6 hv16 => ?_)
     obtain ⟨⟨v17, v18, rfl, hv17, hv18⟩, hb4⟩ := hv16
     have hl6 := Le.no M5 hb4
     have hC6 := hC5.no hb4
     have hr2 := hw5.no hb4
     obtain ⟨bb6, hbb6, rfl⟩ := vbool_ex hv17
     obtain rfl := vint_eq hv18
     refine lw_op Z Z Z (ow_move Z Z (lw_op Z Z Z (ow_extract Z Z Z (lw_op Z Z Z (ow_extract Z Z Z (lw_op Z Z Z (ow_assign Z Z (lw_op Z Z Z (ow_assign Z Z (lw_nil (ew_then (cw_seq (cw_region (lw_op Z Z Z (ow_move Z Z (lw_op Z Z Z (ow_move Z Z ?_)))))))))))))))))
     replace hb1 := bind_some hb1
     obtain ⟨y7, hy7, hb1⟩ := hb1
     refine lw_op Z Z Z (ow_sliceFrom (R := RSpan) Z Z Z (VRep.mono (lz2.trans hl6) h1) Tryd.underlying121 (Tryd.sizeOf120 _) (dropF_some hy7).2 fun v19 hv19 => ?_)
     rw [← (dropF_some hy7).1] at hv19
     refine lw_op Z Z Z (ow_move Z Z (lw_op Z Z Z (ow_move Z Z ?_)))
     replace hb1 := bind_some hb1
     obtain ⟨x4, hx4, hb1⟩ := hb1
     refine lw_op Z Z Z (ow_call Z Z Tryd.call193 (w_impl_stretch (hG.mono (lz2.trans hl6)) hC6.old hv19 hx4) fun v20 w7 hv20 => ?_)
     obtain ⟨⟨v21, v22, rfl, hv21, hv22⟩, hb5⟩ := hv20
     have hl7 := Le.no M5 hb5
     have hC7 := hC6.no hb5
     have hr3 := hr2.no hb5
     obtain ⟨bb7, hbb7, rfl⟩ := vbool_ex hv21
     obtain rfl := vint_eq hv22
     refine lw_op Z Z Z (ow_move Z Z (lw_op Z Z Z (ow_extract Z Z Z (lw_op Z Z Z (ow_extract Z Z Z (lw_op Z Z Z (ow_assign Z Z (lw_op Z Z Z (ow_assign Z Z (lw_nil (ew_then (cw_seq (cw_region (lw_op Z Z Z (ow_move Z Z (lw_op Z Z Z (ow_move Z Z (lw_op Z Z Z (ow_min Z Z Z (lw_op Z Z Z (ow_assign Z Z (lw_nil (ew_then (cw_seq (cw_seq (cw_region (lw_op Z Z Z (ow_move Z Z (lw_op Z Z Z (ow_move Z Z (lw_op Z Z Z (ow_move Z Z ?_))))))))))))))))))))))))))))))))
     replace hb1 := bind_some hb1
     obtain ⟨x5, hx5, hb1⟩ := hb1
     have lz3 := ((lz2.trans hl6).trans hl7)
     refine lw_op Z Z Z (ow_callv Z Z Z Tryd.call182 (w_impl_inBoth (hG.mono lz3) hC7.old hbb6 hbb7 hx5) fun v23 w8 hv23 => ?_)
     obtain ⟨hv23, hb6⟩ := hv23
     have hl8 := Le.no M5 hb6
     have hC8 := hC7.no hb6
     have hr4 := hr3.no hb6
     obtain rfl := vbool_eq hv23
     refine lw_nil (ew_then ?_)
     replace hb1 := cond_some hb1
     rcases hb1 with ⟨hc6, hb1⟩ | ⟨hc6, hb1⟩
     ·
      subst hc6
      refine cw_true Z (cw_seq (cw_region (lw_op Z Z Z (ow_move Z Z (lw_op Z Z Z (ow_lenOwn Z Z hr4 Tryd.underlying121 (lw_op Z Z Z (ow_assign Z Z (lw_nil (ew_then (cw_seq (cw_region (lw_op Z Z Z (ow_move Z Z (lw_op Z Z Z (ow_gtr Z Z Z fun bb8 hbb8 => lw_op Z Z Z (ow_move Z Z ?_)))))))))))))))))
      replace hb1 := cond_some hb1
      rcases hb1 with ⟨hc7, hb1⟩ | ⟨hc7, hb1⟩
      ·
       obtain rfl := hbb8.trans hc7
       refine lw_on Z Z Z Z Z Z (ow_move Z Z (lw_on Z Z Z Z Z Z (ow_move Z Z (lw_on Z Z Z Z Z Z (ow_sub Z Z Z ?_)))))
       replace hb1 := bind_some hb1
       obtain ⟨x6, hx6, hb1⟩ := hb1
       refine lw_on Z Z Z Z Z Z (ow_indexRow (R := RSpan) Z Z Z hr4 Tryd.underlying121 (Tryd.sizeOf120 _) hx6 (lw_on Z Z Z Z Z Z (ow_fieldAddr Z Z Tryd.underlying120 Z (Tryd.sizeOf3 _) (lw_on Z Z Z Z Z Z (ow_loadElRow (R := RSpan) (S := RInt) Z Z Z hr4 (orow_blk hr4 hx6) hx6 fld_Span_Hi (Tryd.sizeOf3 _) (Tryd.isAgg3 _) fun v24 hv24 => ?_)))))
       obtain rfl := vint_eq hv24
       refine lw_on Z Z Z Z Z Z (ow_add Z Z Z (lw_on Z Z Z Z Z Z (ow_move Z Z (lw_on Z Z Z Z Z Z (ow_eqlI Z Z Z fun bb9 hbb9 => lw_op Z Z Z (ow_pickT Z Z Z (lw_nil (ew_then ?_))))))))
       replace hb1 := cond_some hb1
       rcases hb1 with ⟨hc8, hb1⟩ | ⟨hc8, hb1⟩
       ·
        obtain rfl := hbb9.trans hc8
        refine cw_true Z (cw_region (lw_op Z Z Z (ow_move Z Z (lw_op Z Z Z (ow_move Z Z (lw_op Z Z Z (ow_sub Z Z Z (lw_op Z Z Z (ow_move Z Z (lw_op Z Z Z (ow_indexRow (R := RSpan) Z Z Z hr4 Tryd.underlying121 (Tryd.sizeOf120 _) hx6 (lw_op Z Z Z (ow_fieldAddr Z Z Tryd.underlying120 Z (Tryd.sizeOf3 _) (lw_op0 Z Z (ow_storeElRow (X := No) (R := RSpan) (S := RInt) Z Z Z Z hr4 (orow_blk hr4 hx6) hx6 set_Span_Hi (Tryd.sizeOf3 _) (vint _) (Nat.le_refl _) hC8 fun w9 ho1 hb7 hl9 hC9 => lw_nil (ew_then (cw_region (lw_op Z Z Z (ow_move Z Z (lw_op Z Z Z (ow_add Z Z Z (lw_op Z Z Z (ow_assign Z Z (lw_nil (ew_blockN ?_)))))))))))))))))))))))))
        have lz4 := ((lz3.trans hl8).trans hl9)
        exact ew_nxt ((List.set y5 ((W ((y5.length : Int) - 1)) : Int).toNat { x6 with Hi := (imin x3.2 x4.2) }), k5, k7, (W ((imin x3.2 x4.2) + 1))) hb1 fun a ha => ⟨M5, v1, (ha.sub ⟨Z, Z, Z, Z, Z, Z, Z, Z, Zt⟩), lz4, hC9, ho1⟩
       ·
        obtain rfl := hbb9.trans hc8
        refine cw_false Z (cw_region (lw_op Z Z Z (ow_move Z Z (lw_op Z Z Z (ow_move Z Z (lw_op Z Z Z (ow_move Z Z (lw_op Z Z Z (ow_build (v := .agg #[(Zv k3), (Zv (imin x3.2 x4.2))]) Z Z (by kernel_rfl) ?_)))))))))
        have hw6 : VRep RSpan w8 M5 ({ Lo := k3, Hi := (imin x3.2 x4.2) } : Span) (.agg #[(Zv k3), (Zv (imin x3.2 x4.2))]) := shut_Span
        refine lw_op Z Z Z (ow_buildSlice (R := RSpan) (xs := [({ Lo := k3, Hi := (imin x3.2 x4.2) } : Span)]) (cs := #[(Zv k3), (Zv (imin x3.2 x4.2))]) (e := 120) Z Z (by kernel_rfl) Z Z ⟨_, _, Z, hw6.cells, Z⟩ hC8 fun p3 w10 hw7 hb8 hl10 hC10 => ?_)
        have hr5 := hr4.no hb8
        replace hb1 := bind_some hb1
        obtain ⟨z1, hz1, hb1⟩ := hb1
        refine lw_op Z Z Z (ow_append (R := RSpan) Z Z Z Z Tryd.underlying121 hi120 hz120 hs120 hy120 Z Z Z Z hr5 hw7 hz1 hC10 fun v25 w11 M6 hr6 hb9 hl11 hC11 hM1 hat1 => lw_op Z Z Z (ow_assign Z Z (lw_nil (ew_then (cw_region (lw_op Z Z Z (ow_move Z Z (lw_op Z Z Z (ow_add Z Z Z (lw_op Z Z Z (ow_assign Z Z (lw_nil (ew_blockN ?_)))))))))))))
        have lz5 := (((lz3.trans hl8).trans hl10).trans hl11)
        exact ew_nxt (z1, k5, k7, (W ((imin x3.2 x4.2) + 1))) hb1 fun a ha => ⟨M6, v25, (ha.sub ⟨Z, Z, Z, Z, Z, Z, Z, Z, Zt⟩), lz5, hC11, hr6⟩
      ·
       obtain rfl := hbb8.trans hc7
       refine lw_off Z Z Z Z Z Z (lw_off Z Z Z Z Z Z (lw_off Z Z Z Z Z Z (lw_off Z Z Z Z Z Z (lw_off Z Z Z Z Z Z (lw_off Z Z Z Z Z Z (lw_off Z Z Z Z Z Z (lw_off Z Z Z Z Z Z (lw_off Z Z Z Z Z Z (lw_op Z Z Z (ow_pickF Z Z Z (lw_nil (ew_then (cw_false Z (cw_region (lw_op Z Z Z (ow_move Z Z (lw_op Z Z Z (ow_move Z Z (lw_op Z Z Z (ow_move Z Z (lw_op Z Z Z (ow_build (v := .agg #[(Zv k3), (Zv (imin x3.2 x4.2))]) Z Z (by kernel_rfl) ?_))))))))))))))))))))))
       have hw8 : VRep RSpan w8 M5 ({ Lo := k3, Hi := (imin x3.2 x4.2) } : Span) (.agg #[(Zv k3), (Zv (imin x3.2 x4.2))]) := shut_Span
       refine lw_op Z Z Z (ow_buildSlice (R := RSpan) (xs := [({ Lo := k3, Hi := (imin x3.2 x4.2) } : Span)]) (cs := #[(Zv k3), (Zv (imin x3.2 x4.2))]) (e := 120) Z Z (by kernel_rfl) Z Z ⟨_, _, Z, hw8.cells, Z⟩ hC8 fun p4 w12 hw9 hb10 hl12 hC12 => ?_)
       have hr7 := hr4.no hb10
       replace hb1 := bind_some hb1
       obtain ⟨z2, hz2, hb1⟩ := hb1
       refine lw_op Z Z Z (ow_append (R := RSpan) Z Z Z Z Tryd.underlying121 hi120 hz120 hs120 hy120 Z Z Z Z hr7 hw9 hz2 hC12 fun v26 w13 M7 hr8 hb11 hl13 hC13 hM2 hat2 => lw_op Z Z Z (ow_assign Z Z (lw_nil (ew_then (cw_region (lw_op Z Z Z (ow_move Z Z (lw_op Z Z Z (ow_add Z Z Z (lw_op Z Z Z (ow_assign Z Z (lw_nil (ew_blockN ?_)))))))))))))
       have lz6 := (((lz3.trans hl8).trans hl12).trans hl13)
       exact ew_nxt (z2, k5, k7, (W ((imin x3.2 x4.2) + 1))) hb1 fun a ha => ⟨M7, v26, (ha.sub ⟨Z, Z, Z, Z, Z, Z, Z, Z, Zt⟩), lz6, hC13, hr8⟩
     ·
      subst hc6
      exact cw_false Z (cw_skip (ew_then (cw_region (lw_op Z Z Z (ow_move Z Z (lw_op Z Z Z (ow_add Z Z Z (lw_op Z Z Z (ow_assign Z Z (lw_nil (ew_blockN (ew_nxt (y5, k5, k7, (W ((imin x3.2 x4.2) + 1))) hb1 fun a ha => ⟨M5, v1, (ha.sub ⟨Z, Z, Z, Z, Z, Z, Z, Z, Zt⟩), (lz3.trans hl8), hC8, hr4⟩))))))))))))
  ·
   obtain rfl := hbb1.trans hc1
   exact cw_false Z (cw_exit (ew_thenX (ew_thenX (ew_blockX (ew_brk (y1, k1, k2, k3) hb1 fun a ha => ⟨M1, v1, (ha.sub ⟨Z, Z, Z, Z, Z, Z, Z, Z, Zt⟩), hl1, hC1, hw1⟩)))))
 ·
  rintro ⟨y8, k8, k9, k10⟩ a w14 hlr6 ⟨M8, v27, hF6, hl14, hC14, hw10⟩
  subst hlr6
  refine ew_at (E := [(0, v0p), (1, v1p), (2, (Zv a_top)), (3, (.func (.func 182) #[] #[])), (9, v27), (10, (Zv k8)), (11, (Zv k9)), (12, (Zv k10))]) hF6 (ew_then (cw_seq (cw_region (lw_op Z Z Z (ow_move Z Z (lw_op Z Z Z (ow_assign Z Z (lw_nil (ew_then (cw_ret ?_))))))))))
  obtain rfl := sj h
  exact ew_ret (res1 Z (.tmp Z)) ⟨_, Z, (hw10.freezeBack hC14 hO), hC14.bx⟩

theorem w_impl_meetSpans {w : World} {M : Nat → Prop} (hG : ARep (RArr 4 RShape) w M shapes ⟨0, 0, none⟩) (hO : ∀ b, M b → b < w.heap.size) {v0p : Value} {a_a : List Span} (h0 : VRep (RSlice RSpan) w M a_a v0p) {v1p : Value} {a_b : List Span} (h1 : VRep (RSlice RSpan) w M a_b v1p) {a_top : Int} {r : (List Span) × Bool} (h : F.impl_meetSpans a_a a_b a_top = some r) :
  Calls Tryd.prog 155 [v0p, v1p, (.int .i64 a_top)].toArray w fun e w' => ∃ v, e = .returned v ∧ (∃ u0 u1, v = .tuple #[u0, u1] ∧ VRep (RSlice RSpan) w' M r.1 u0 ∧ VRep RBool w' M r.2 u1) ∧ BX No w w' := by
 have hC : Cx No w M w M := Cx.start hO (fun _ e => e.elim)
 refine walk (N := 15) Tryd.func155 Z Tryd.ntmps155 Z (cw_seq (cw_region (lw_op Z Z Z (ow_assign Z Z (lw_op Z Z Z (ow_assign Z Z (lw_nil (ew_then (cw_seq (cw_region (lw_op Z Z Z (ow_move Z Z (lw_op Z Z Z (ow_move Z Z (lw_op Z Z Z (ow_move Z Z ?_))))))))))))))))
 replace h := bind_some h
 obtain ⟨x1, hx1, h⟩ := h
 refine lw_op Z Z Z (ow_call Z Z Tryd.call169 (w_impl_sweepSpans__impl_inBoth hG hC.old h0 h1 hx1) fun v1 w1 hv1 => ?_)
 obtain ⟨hv1, hb1⟩ := hv1
 have hl1 := Le.no M hb1
 have hC1 := hC.no hb1
 replace h := bind_some h
 obtain ⟨x2, hx2, h⟩ := h
 refine lw_op Z Z Z (ow_call Z Z Tryd.call181 (w_impl_limitSpans (hG.mono hl1) hC1.old hv1 hx2) fun v2 w2 hv2 => ?_)
 obtain ⟨⟨v3, v4, rfl, hv3, hv4⟩, hb2⟩ := hv2
 have hC2 := hC1.no hb2
 obtain ⟨bb1, hbb1, rfl⟩ := vbool_ex hv4
 refine lw_op Z Z Z (ow_extract Z Z Z (lw_op Z Z Z (ow_extract Z Z Z (lw_op Z Z Z (ow_assign Z Z (lw_op Z Z Z (ow_assign Z Z (lw_nil (ew_then (cw_ret ?_))))))))))
 obtain rfl := sj h
 exact ew_ret (res2 Z (.tmp Z) (.tmp Z)) ⟨_, Z, ⟨_, _, Z, (VRep.mono hC2.back hv3), ((vbool_of hbb1))⟩, hC2.bx⟩

theorem w_impl_firstCommon {w : World} {M : Nat → Prop} (_hG : ARep (RArr 4 RShape) w M shapes ⟨0, 0, none⟩) (hO : ∀ b, M b → b < w.heap.size) {v0p : Value} {a_a : List Span} (h0 : VRep (RSlice RSpan) w M a_a v0p) {v1p : Value} {a_b : List Span} (h1 : VRep (RSlice RSpan) w M a_b v1p) {r : Int × Bool} (h : F.impl_firstCommon a_a a_b = some r) :
  Calls Tryd.prog 199 [v0p, v1p].toArray w fun e w' => ∃ v, e = .returned v ∧ (∃ u0 u1, v = .tuple #[u0, u1] ∧ VRep RInt w' M r.1 u0 ∧ VRep RBool w' M r.2 u1) ∧ BX No w w' := by
 have hC : Cx No w M w M := Cx.start hO (fun _ e => e.elim)
 clear _hG
 refine walk (N := 59) Tryd.func199 Z Tryd.ntmps199 Z (cw_seq (cw_region (lw_op Z Z Z (ow_assign Z Z (lw_op Z Z Z (ow_assign Z Z (lw_nil (ew_then (cw_seq (cw_seq (cw_region (lw_op Z Z Z (ow_assign Z Z (lw_op Z Z Z (ow_assign Z Z (lw_nil (ew_then ?_)))))))))))))))))
 replace h := bind_some h
 obtain ⟨lr1, hlr1, h⟩ := h
 refine cw_for hlr1 (fun s a w' => ∃ (M' : Nat → Prop), Fits 59 [(0, v0p), (1, v1p), (6, (Zv s.1)), (7, (Zv s.2))] a ∧ Le w M w' M' ∧ Cx No w M w' M') ?_ ?_ ?_
 · exact fun a ha => ⟨M, ha.sub ⟨Z, Z, Z, Z, Zt⟩, Le.refl _ _, hC⟩
 ·
  rintro ⟨k1, k2⟩ a w1 sr1 ⟨M1, hF1, hl1, hC1⟩ hb1 hR1
  refine cw_at (E := [(0, v0p), (1, v1p), (6, (Zv k1)), (7, (Zv k2))]) hF1 (cw_seq (cw_seq (cw_region (lw_op Z Z Z (ow_move Z Z (lw_op Z Z Z (ow_move Z Z (lw_op Z Z Z (ow_len Z Z (VRep.mono hl1 h0) Tryd.underlying121 Z (lw_op Z Z Z (ow_lss Z Z Z fun bb1 hbb1 => lw_op Z Z Z (ow_move Z Z ?_))))))))))))
  replace hb1 := cond_some hb1
  rcases hb1 with ⟨hc1, hb1⟩ | ⟨hc1, hb1⟩
  ·
   obtain rfl := hbb1.trans hc1
   refine lw_on Z Z Z Z Z Z (ow_move Z Z (lw_on Z Z Z Z Z Z (ow_move Z Z (lw_on Z Z Z Z Z Z (ow_len Z Z (VRep.mono hl1 h1) Tryd.underlying121 Z (lw_on Z Z Z Z Z Z (ow_lss Z Z Z fun bb2 hbb2 => lw_op Z Z Z (ow_pickT Z Z Z (lw_nil (ew_then ?_))))))))))
   replace hb1 := cond_some hb1
   rcases hb1 with ⟨hc2, hb1⟩ | ⟨hc2, hb1⟩
   ·
    obtain rfl := hbb2.trans hc2
    refine cw_true Z (cw_skip (ew_then (cw_block (cw_seq ?_))))
    replace hb1 := bind_some hb1
    obtain ⟨x1, hx1, hb1⟩ := hb1
    replace hb1 := bind_some hb1
    obtain ⟨x2, hx2, hb1⟩ := hb1
    refine cw_sub (E' := [(0, v0p), (1, v1p), (6, (Zv k1)), (7, (Zv k2))]) ⟨Z, Z, Z, Z, Zt⟩ (cw_drawQ 10 [PV (RSlice RSpan) M1 a_a, PEq (Zv k1), PA RSpan M1 x1, PA RInt M1 x1.Lo, PEq (Zv x1.Lo), PV (RSlice RSpan) M1 a_b, PEq (Zv k2), PA RSpan M1 x2, PA RInt M1 x2.Lo, PEq (Zv x2.Lo)] (by kernel_rfl) Z (by kernel_rfl) ⟨PV.mono _ _ _, Zq, PA.mono _ _ _, PA.mono _ _ _, Zq, PV.mono _ _ _, Zq, PA.mono _ _ _, PA.mono _ _ _, Zq, Zt⟩ ⟨?_, ?_, ?_, ?_, ?_, ?_, ?_, ?_, ?_, ?_, Zt⟩ ?_)
    ·
     intro w2 D hS1 hd1
     have hl2 := Le.no M1 hS1
     exact dg_sub (E' := [(0, v0p)]) ⟨Z, Zt⟩ (dg_plain Z (ow_move Z Z ⟨BX.refl _ _, (VRep.mono (hl1.trans hl2) h0)⟩))
    · exact fun w3 D hS2 hd2 => dg_sub (E' := [(6, (Zv k1))]) ⟨Z, Zt⟩ (dg_plain Z (ow_move Z Z Zb))
    ·
     intro w4 D hS3 hd3
     have d1 : PV (RSlice RSpan) M1 a_a (D 0) w4 := dpA hd3 0 Z
     generalize hq1 : (D 0) = v5 at d1
     exact dg_sub (E' := [(19, v5), (20, (Zv k1))]) ⟨congrArg some hq1, dpE hd3 1 Z Z, Zt⟩ (dg_plain Z (ow_indexSlice (R := RSpan) Z Z Z d1 Tryd.underlying121 (Tryd.sizeOf120 _) hx1 fun p3 hp3 => ⟨BX.refl _ _, ⟨_, Z, hp3⟩⟩))
    ·
     intro w5 D hS4 hd4
     have d3 : PA RSpan M1 x1 (D 2) w5 := dpA hd4 2 Z
     obtain ⟨p4, e1, ha1⟩ := d3
     exact dg_sub (E' := [(21, (.pointer (some p4)))]) ⟨congrArg some e1, Zt⟩ (dg_plain Z (ow_fieldAddr Z Z Tryd.underlying120 Z (Tryd.sizeOf3 _) ⟨BX.refl _ _, ⟨_, Z, (ha1.fld fld_Span_Lo)⟩⟩))
    ·
     intro w6 D hS5 hd5
     have d4 : PA RInt M1 x1.Lo (D 3) w6 := dpA hd5 3 Z
     obtain ⟨p5, e2, ha2⟩ := d4
     refine dg_sub (E' := [(22, (.pointer (some p5)))]) ⟨congrArg some e2, Zt⟩ (dg_plain Z (ow_load (R := RInt) Z Z ha2 (Tryd.sizeOf3 _) (Tryd.isAgg3 _) fun v6 hv6 => ?_))
     obtain rfl := vint_eq hv6
     exact Zb
    ·
     intro w7 D hS6 hd6
     have hl7 := Le.no M1 hS6
     exact dg_sub (E' := [(1, v1p)]) ⟨Z, Zt⟩ (dg_plain Z (ow_move Z Z ⟨BX.refl _ _, (VRep.mono (hl1.trans hl7) h1)⟩))
    · exact fun w8 D hS7 hd7 => dg_sub (E' := [(7, (Zv k2))]) ⟨Z, Zt⟩ (dg_plain Z (ow_move Z Z Zb))
    ·
     intro w9 D hS8 hd8
     have d5 : PV (RSlice RSpan) M1 a_b (D 5) w9 := dpA hd8 5 Z
     generalize hq2 : (D 5) = v7 at d5
     exact dg_sub (E' := [(24, v7), (25, (Zv k2))]) ⟨congrArg some hq2, dpE hd8 6 Z Z, Zt⟩ (dg_plain Z (ow_indexSlice (R := RSpan) Z Z Z d5 Tryd.underlying121 (Tryd.sizeOf120 _) hx2 fun p6 hp6 => ⟨BX.refl _ _, ⟨_, Z, hp6⟩⟩))
    ·
     intro w10 D hS9 hd9
     have d7 : PA RSpan M1 x2 (D 7) w10 := dpA hd9 7 Z
     obtain ⟨p7, e3, ha3⟩ := d7
     exact dg_sub (E' := [(26, (.pointer (some p7)))]) ⟨congrArg some e3, Zt⟩ (dg_plain Z (ow_fieldAddr Z Z Tryd.underlying120 Z (Tryd.sizeOf3 _) ⟨BX.refl _ _, ⟨_, Z, (ha3.fld fld_Span_Lo)⟩⟩))
    ·
     intro w11 D hS10 hd10
     have d8 : PA RInt M1 x2.Lo (D 8) w11 := dpA hd10 8 Z
     obtain ⟨p8, e4, ha4⟩ := d8
     refine dg_sub (E' := [(27, (.pointer (some p8)))]) ⟨congrArg some e4, Zt⟩ (dg_plain Z (ow_load (R := RInt) Z Z ha4 (Tryd.sizeOf3 _) (Tryd.isAgg3 _) fun v8 hv8 => ?_))
     obtain rfl := vint_eq hv8
     exact Zb
    ·
     intro w12 D hS11 hd11
     have hl12 := Le.no M1 hS11
     have hC12 := hC1.no hS11
     refine lw_sub (E' := [(23, (Zv x1.Lo)), (28, (Zv x2.Lo)), (0, v0p), (1, v1p), (6, (Zv k1)), (7, (Zv k2))]) ⟨dpE hd11 4 Z Z, dpE hd11 9 Z Z, Z, Z, Z, Z, Zt⟩ (lw_op Z Z Z (ow_max Z Z Z (lw_op Z Z Z (ow_assign Z Z (lw_nil (ew_then (cw_seq (cw_seq ?_))))))))
     have lz1 := (hl1.trans hl12)
     refine cw_sub (E' := [(0, v0p), (1, v1p), (6, (Zv k1)), (7, (Zv k2)), (8, (Zv (imax x1.Lo x2.Lo)))]) ⟨Z, Z, Z, Z, Z, Zt⟩ (cw_drawQ 12 [PEq (Zv (imax x1.Lo x2.Lo)), PV (RSlice RSpan) M1 a_a, PEq (Zv k1), PA RSpan M1 x1, PA RInt M1 x1.Hi, PEq (Zv x1.Hi), PV (RSlice RSpan) M1 a_b, PEq (Zv k2), PA RSpan M1 x2, PA RInt M1 x2.Hi, PEq (Zv x2.Hi), PEq (Zv (imin x1.Hi x2.Hi))] (by kernel_rfl) Z (by kernel_rfl) ⟨Zq, PV.mono _ _ _, Zq, PA.mono _ _ _, PA.mono _ _ _, Zq, PV.mono _ _ _, Zq, PA.mono _ _ _, PA.mono _ _ _, Zq, Zq, Zt⟩ ⟨?_, ?_, ?_, ?_, ?_, ?_, ?_, ?_, ?_, ?_, ?_, ?_, Zt⟩ ?_)
     · exact fun w13 D hS12 hd12 => dg_sub (E' := [(8, (Zv (imax x1.Lo x2.Lo)))]) ⟨Z, Zt⟩ (dg_plain Z (ow_move Z Z Zb))
     ·
      intro w14 D hS13 hd13
      have hl14 := Le.no M1 hS13
      exact dg_sub (E' := [(0, v0p)]) ⟨Z, Zt⟩ (dg_plain Z (ow_move Z Z ⟨BX.refl _ _, (VRep.mono (lz1.trans hl14) h0)⟩))
     · exact fun w15 D hS14 hd14 => dg_sub (E' := [(6, (Zv k1))]) ⟨Z, Zt⟩ (dg_plain Z (ow_move Z Z Zb))
     ·
      intro w16 D hS15 hd15
      have d19 : PV (RSlice RSpan) M1 a_a (D 1) w16 := dpA hd15 1 Z
      generalize hq3 : (D 1) = v11 at d19
      exact dg_sub (E' := [(31, v11), (32, (Zv k1))]) ⟨congrArg some hq3, dpE hd15 2 Z Z, Zt⟩ (dg_plain Z (ow_indexSlice (R := RSpan) Z Z Z d19 Tryd.underlying121 (Tryd.sizeOf120 _) hx1 fun p11 hp11 => ⟨BX.refl _ _, ⟨_, Z, hp11⟩⟩))
     ·
      intro w17 D hS16 hd16
      have d21 : PA RSpan M1 x1 (D 3) w17 := dpA hd16 3 Z
      obtain ⟨p12, e5, ha5⟩ := d21
      exact dg_sub (E' := [(33, (.pointer (some p12)))]) ⟨congrArg some e5, Zt⟩ (dg_plain Z (ow_fieldAddr Z Z Tryd.underlying120 Z (Tryd.sizeOf3 _) ⟨BX.refl _ _, ⟨_, Z, (ha5.fld fld_Span_Hi)⟩⟩))
     ·
      intro w18 D hS17 hd17
      have d22 : PA RInt M1 x1.Hi (D 4) w18 := dpA hd17 4 Z
      obtain ⟨p13, e6, ha6⟩ := d22
      refine dg_sub (E' := [(34, (.pointer (some p13)))]) ⟨congrArg some e6, Zt⟩ (dg_plain Z (ow_load (R := RInt) Z Z ha6 (Tryd.sizeOf3 _) (Tryd.isAgg3 _) fun v12 hv12 => ?_))
      obtain rfl := vint_eq hv12
      exact Zb
     ·
      intro w19 D hS18 hd18
      have hl19 := Le.no M1 hS18
      exact dg_sub (E' := [(1, v1p)]) ⟨Z, Zt⟩ (dg_plain Z (ow_move Z Z ⟨BX.refl _ _, (VRep.mono (lz1.trans hl19) h1)⟩))
     · exact fun w20 D hS19 hd19 => dg_sub (E' := [(7, (Zv k2))]) ⟨Z, Zt⟩ (dg_plain Z (ow_move Z Z Zb))
     ·
      intro w21 D hS20 hd20
      have d23 : PV (RSlice RSpan) M1 a_b (D 6) w21 := dpA hd20 6 Z
      generalize hq4 : (D 6) = v13 at d23
      exact dg_sub (E' := [(36, v13), (37, (Zv k2))]) ⟨congrArg some hq4, dpE hd20 7 Z Z, Zt⟩ (dg_plain Z (ow_indexSlice (R := RSpan) Z Z Z d23 Tryd.underlying121 (Tryd.sizeOf120 _) hx2 fun p14 hp14 => ⟨BX.refl _ _, ⟨_, Z, hp14⟩⟩))
     ·
      intro w22 D hS21 hd21
      have d25 : PA RSpan M1 x2 (D 8) w22 := dpA hd21 8 Z
      obtain ⟨p15, e7, ha7⟩ := d25
      exact dg_sub (E' := [(38, (.pointer (some p15)))]) ⟨congrArg some e7, Zt⟩ (dg_plain Z (ow_fieldAddr Z Z Tryd.underlying120 Z (Tryd.sizeOf3 _) ⟨BX.refl _ _, ⟨_, Z, (ha7.fld fld_Span_Hi)⟩⟩))
     ·
      intro w23 D hS22 hd22
      have d26 : PA RInt M1 x2.Hi (D 9) w23 := dpA hd22 9 Z
      obtain ⟨p16, e8, ha8⟩ := d26
      refine dg_sub (E' := [(39, (.pointer (some p16)))]) ⟨congrArg some e8, Zt⟩ (dg_plain Z (ow_load (R := RInt) Z Z ha8 (Tryd.sizeOf3 _) (Tryd.isAgg3 _) fun v14 hv14 => ?_))
      obtain rfl := vint_eq hv14
      exact Zb
     · exact fun w24 D hS23 hd23 => dg_sub (E' := [(35, (Zv x1.Hi)), (40, (Zv x2.Hi))]) ⟨dpE hd23 5 Z Z, dpE hd23 10 Z Z, Zt⟩ (dg_plain Z (ow_min Z Z Z Zb))
     ·
      intro w25 D hS24 hd24
      have hl25 := Le.no M1 hS24
      have hC25 := hC12.no hS24
      refine lw_sub (E' := [(30, (Zv (imax x1.Lo x2.Lo))), (41, (Zv (imin x1.Hi x2.Hi))), (0, v0p), (1, v1p), (6, (Zv k1)), (7, (Zv k2)), (8, (Zv (imax x1.Lo x2.Lo)))]) ⟨dpE hd24 0 Z Z, dpE hd24 11 Z Z, Z, Z, Z, Z, Z, Zt⟩ (lw_op Z Z Z (ow_leq Z Z Z fun bb3 hbb3 => lw_nil (ew_then ?_)))
      replace hb1 := cond_some hb1
      rcases hb1 with ⟨hc3, hb1⟩ | ⟨hc3, hb1⟩
      ·
       obtain rfl := hbb3.trans hc3
       refine cw_true Z (cw_seq (cw_region (lw_op Z Z Z (ow_move Z Z (lw_op Z Z Z (ow_assign Z Z (lw_op Z Z Z (ow_assign Z Z (lw_nil (ew_then (cw_ret (ew_thenR (ew_blockR (ew_thenR (ew_blockR (ew_brkR (ew_thenR ?_)))))))))))))))))
       have e9 := hR1 _ (sj hb1).symm
       subst e9
       obtain rfl := sj h
       exact ew_ret (res2 Z (.tmp Z) (.tmp Z)) ⟨_, Z, ⟨_, _, Z, ((vint _)), ((vbool _))⟩, hC25.bx⟩
      ·
       obtain rfl := hbb3.trans hc3
       refine cw_false Z (cw_skip (ew_then (cw_seq ?_)))
       have lz2 := (lz1.trans hl25)
       refine cw_sub (E' := [(0, v0p), (1, v1p), (6, (Zv k1)), (7, (Zv k2))]) ⟨Z, Z, Z, Z, Zt⟩ (cw_drawQ 10 [PV (RSlice RSpan) M1 a_a, PEq (Zv k1), PA RSpan M1 x1, PA RInt M1 x1.Hi, PEq (Zv x1.Hi), PV (RSlice RSpan) M1 a_b, PEq (Zv k2), PA RSpan M1 x2, PA RInt M1 x2.Hi, PEq (Zv x2.Hi)] (by kernel_rfl) Z (by kernel_rfl) ⟨PV.mono _ _ _, Zq, PA.mono _ _ _, PA.mono _ _ _, Zq, PV.mono _ _ _, Zq, PA.mono _ _ _, PA.mono _ _ _, Zq, Zt⟩ ⟨?_, ?_, ?_, ?_, ?_, ?_, ?_, ?_, ?_, ?_, Zt⟩ ?_)
       ·
        intro w26 D hS25 hd25
        have hl26 := Le.no M1 hS25
        exact dg_sub (E' := [(0, v0p)]) ⟨Z, Zt⟩ (dg_plain Z (ow_move Z Z ⟨BX.refl _ _, (VRep.mono (lz2.trans hl26) h0)⟩))
       · exact fun w27 D hS26 hd26 => dg_sub (E' := [(6, (Zv k1))]) ⟨Z, Zt⟩ (dg_plain Z (ow_move Z Z Zb))
       ·
        intro w28 D hS27 hd27
        have d41 : PV (RSlice RSpan) M1 a_a (D 0) w28 := dpA hd27 0 Z
        generalize hq5 : (D 0) = v17 at d41
        exact dg_sub (E' := [(44, v17), (45, (Zv k1))]) ⟨congrArg some hq5, dpE hd27 1 Z Z, Zt⟩ (dg_plain Z (ow_indexSlice (R := RSpan) Z Z Z d41 Tryd.underlying121 (Tryd.sizeOf120 _) hx1 fun p19 hp19 => ⟨BX.refl _ _, ⟨_, Z, hp19⟩⟩))
       ·
        intro w29 D hS28 hd28
        have d43 : PA RSpan M1 x1 (D 2) w29 := dpA hd28 2 Z
        obtain ⟨p20, e10, ha9⟩ := d43
        exact dg_sub (E' := [(46, (.pointer (some p20)))]) ⟨congrArg some e10, Zt⟩ (dg_plain Z (ow_fieldAddr Z Z Tryd.underlying120 Z (Tryd.sizeOf3 _) ⟨BX.refl _ _, ⟨_, Z, (ha9.fld fld_Span_Hi)⟩⟩))
       ·
        intro w30 D hS29 hd29
        have d44 : PA RInt M1 x1.Hi (D 3) w30 := dpA hd29 3 Z
        obtain ⟨p21, e11, ha10⟩ := d44
        refine dg_sub (E' := [(47, (.pointer (some p21)))]) ⟨congrArg some e11, Zt⟩ (dg_plain Z (ow_load (R := RInt) Z Z ha10 (Tryd.sizeOf3 _) (Tryd.isAgg3 _) fun v18 hv18 => ?_))
        obtain rfl := vint_eq hv18
        exact Zb
       ·
        intro w31 D hS30 hd30
        have hl31 := Le.no M1 hS30
        exact dg_sub (E' := [(1, v1p)]) ⟨Z, Zt⟩ (dg_plain Z (ow_move Z Z ⟨BX.refl _ _, (VRep.mono (lz2.trans hl31) h1)⟩))
       · exact fun w32 D hS31 hd31 => dg_sub (E' := [(7, (Zv k2))]) ⟨Z, Zt⟩ (dg_plain Z (ow_move Z Z Zb))
       ·
        intro w33 D hS32 hd32
        have d45 : PV (RSlice RSpan) M1 a_b (D 5) w33 := dpA hd32 5 Z
        generalize hq6 : (D 5) = v19 at d45
        exact dg_sub (E' := [(49, v19), (50, (Zv k2))]) ⟨congrArg some hq6, dpE hd32 6 Z Z, Zt⟩ (dg_plain Z (ow_indexSlice (R := RSpan) Z Z Z d45 Tryd.underlying121 (Tryd.sizeOf120 _) hx2 fun p22 hp22 => ⟨BX.refl _ _, ⟨_, Z, hp22⟩⟩))
       ·
        intro w34 D hS33 hd33
        have d47 : PA RSpan M1 x2 (D 7) w34 := dpA hd33 7 Z
        obtain ⟨p23, e12, ha11⟩ := d47
        exact dg_sub (E' := [(51, (.pointer (some p23)))]) ⟨congrArg some e12, Zt⟩ (dg_plain Z (ow_fieldAddr Z Z Tryd.underlying120 Z (Tryd.sizeOf3 _) ⟨BX.refl _ _, ⟨_, Z, (ha11.fld fld_Span_Hi)⟩⟩))
       ·
        intro w35 D hS34 hd34
        have d48 : PA RInt M1 x2.Hi (D 8) w35 := dpA hd34 8 Z
        obtain ⟨p24, e13, ha12⟩ := d48
        refine dg_sub (E' := [(52, (.pointer (some p24)))]) ⟨congrArg some e13, Zt⟩ (dg_plain Z (ow_load (R := RInt) Z Z ha12 (Tryd.sizeOf3 _) (Tryd.isAgg3 _) fun v20 hv20 => ?_))
        obtain rfl := vint_eq hv20
        exact Zb
       ·
        intro w36 D hS35 hd35
        have hl36 := Le.no M1 hS35
        have hC36 := hC25.no hS35
        refine lw_sub (E' := [(48, (Zv x1.Hi)), (53, (Zv x2.Hi)), (0, v0p), (1, v1p), (6, (Zv k1)), (7, (Zv k2))]) ⟨dpE hd35 4 Z Z, dpE hd35 9 Z Z, Z, Z, Z, Z, Zt⟩ (lw_op Z Z Z (ow_lss Z Z Z fun bb4 hbb4 => lw_nil (ew_then ?_)))
        replace hb1 := cond_some hb1
        rcases hb1 with ⟨hc4, hb1⟩ | ⟨hc4, hb1⟩
        ·
         obtain rfl := hbb4.trans hc4
         exact cw_true Z (cw_region (lw_op Z Z Z (ow_move Z Z (lw_op Z Z Z (ow_add Z Z Z (lw_op Z Z Z (ow_assign Z Z (lw_nil (ew_blockN (ew_nxt ((W (k1 + 1)), k2) hb1 fun a ha => ⟨M1, (ha.sub ⟨Z, Z, Z, Z, Zt⟩), (lz2.trans hl36), hC36⟩))))))))))
        ·
         obtain rfl := hbb4.trans hc4
         exact cw_false Z (cw_region (lw_op Z Z Z (ow_move Z Z (lw_op Z Z Z (ow_add Z Z Z (lw_op Z Z Z (ow_assign Z Z (lw_nil (ew_blockN (ew_nxt (k1, (W (k2 + 1))) hb1 fun a ha => ⟨M1, (ha.sub ⟨Z, Z, Z, Z, Zt⟩), (lz2.trans hl36), hC36⟩))))))))))
   ·
    obtain rfl := hbb2.trans hc2
    exact cw_false Z (cw_exit (ew_thenX (ew_thenX (ew_blockX (ew_brk (k1, k2) hb1 fun a ha => ⟨M1, (ha.sub ⟨Z, Z, Z, Z, Zt⟩), hl1, hC1⟩)))))
  ·
   obtain rfl := hbb1.trans hc1
   exact lw_off Z Z Z Z Z Z (lw_off Z Z Z Z Z Z (lw_off Z Z Z Z Z Z (lw_off Z Z Z Z Z Z (lw_op Z Z Z (ow_pickF Z Z Z (lw_nil (ew_then (cw_false Z (cw_exit (ew_thenX (ew_thenX (ew_blockX (ew_brk (k1, k2) hb1 fun a ha => ⟨M1, (ha.sub ⟨Z, Z, Z, Z, Zt⟩), hl1, hC1⟩)))))))))))))
 ·
  rintro ⟨k3, k4⟩ a w37 hlr2 ⟨M2, hF2, hl37, hC37⟩
  subst hlr2
  refine ew_at (E := [(0, v0p), (1, v1p), (6, (Zv k3)), (7, (Zv k4))]) hF2 (ew_then (cw_seq (cw_region (lw_op Z Z Z (ow_assign Z Z (lw_op Z Z Z (ow_assign Z Z (lw_nil (ew_then (cw_ret ?_))))))))))
  obtain rfl := sj h
  exact ew_ret (res2 Z (.tmp Z) (.tmp Z)) ⟨_, Z, ⟨_, _, Z, ((vint _)), ((vbool _))⟩, hC37.bx⟩

theorem w_impl_packetOf {w : World} {M : Nat → Prop} (_hG : ARep (RArr 4 RShape) w M shapes ⟨0, 0, none⟩) (hO : ∀ b, M b → b < w.heap.size) {v0p : Value} {a_fields : List Int} (h0 : VRep (RArr 4 RInt) w M a_fields v0p) {r : Packet} (h : F.impl_packetOf a_fields = some r) :
  Calls Tryd.prog 200 [v0p].toArray w fun e w' => ∃ v, e = .returned v ∧ VRep RPacket w' M r v ∧ BX No w w' := by
 have hC : Cx No w M w M := Cx.start hO (fun _ e => e.elim)
 clear _hG
 refine walk (N := 12) Tryd.func200 Z Tryd.ntmps200 Z (cw_seq (cw_region (lw_op Z Z Z (ow_box (R := (RArr 4 RInt)) Z Z h0 hC fun p1 w1 hp1 hb1 hl1 hC1 => lw_op Z Z Z (ow_alloc Z (Tryd.zeroValue27 _) hC1 fun g1 w2 hg1 hg2 ho1 hb2 hl2 hC2 => ?_)))))
 have hm1 : (Add g1 M) g1 := .inl Z
 refine lw_nil (ew_then (cw_seq (cw_region ?_)))
 replace h := bind_some h
 obtain ⟨x1, hx1, h⟩ := h
 refine lw_op Z Z Z (ow_indexArr (R := RInt) Z Z Z (ARep.mono hl2 hp1) Tryd.underlying186 (Tryd.sizeOf3 _) hx1 fun p2 hp2 => lw_op Z Z Z (ow_load (R := RInt) Z Z hp2 (Tryd.sizeOf3 _) (Tryd.isAgg3 _) fun v1 hv1 => ?_))
 obtain rfl := vint_eq hv1
 replace h := bind_some h
 obtain ⟨x2, hx2, h⟩ := h
 refine lw_op Z Z Z (ow_indexArr (R := RInt) Z Z Z (ARep.mono hl2 hp1) Tryd.underlying186 (Tryd.sizeOf3 _) hx2 fun p3 hp3 => lw_op Z Z Z (ow_load (R := RInt) Z Z hp3 (Tryd.sizeOf3 _) (Tryd.isAgg3 _) fun v2 hv2 => ?_))
 obtain rfl := vint_eq hv2
 replace h := bind_some h
 obtain ⟨x3, hx3, h⟩ := h
 refine lw_op Z Z Z (ow_indexArr (R := RInt) Z Z Z (ARep.mono hl2 hp1) Tryd.underlying186 (Tryd.sizeOf3 _) hx3 fun p4 hp4 => lw_op Z Z Z (ow_load (R := RInt) Z Z hp4 (Tryd.sizeOf3 _) (Tryd.isAgg3 _) fun v3 hv3 => ?_))
 obtain rfl := vint_eq hv3
 replace h := bind_some h
 obtain ⟨x4, hx4, h⟩ := h
 refine lw_op Z Z Z (ow_indexArr (R := RInt) Z Z Z (ARep.mono hl2 hp1) Tryd.underlying186 (Tryd.sizeOf3 _) hx4 fun p5 hp5 => lw_op Z Z Z (ow_load (R := RInt) Z Z hp5 (Tryd.sizeOf3 _) (Tryd.isAgg3 _) fun v4 hv4 => ?_))
 obtain rfl := vint_eq hv4
 refine lw_op Z Z Z (ow_build (v := .agg #[(Zv x1), (Zv x2), (Zv x3), (Zv x4)]) Z Z (by kernel_rfl) (lw_op0 Z Z (ow_store (X := No) (us := [(Zv x1), (Zv x2), (Zv x3), (Zv x4)]) (cs' := #[(Zv x1), (Zv x2), (Zv x3), (Zv x4)]) Z Z Z Z ho1 (Tryd.sizeOf27 _) Z Z Z Z hm1 (.inl hg2) Z hC2 fun w3 ho2 hb3 hl3 hC3 => lw_nil (ew_then (cw_ret ?_)))))
 have hw2 : VRep RPacket w3 (Add g1 M) ({ From := x1, To := x2, Port := x3, Proto := x4 } : Packet) (.agg #[(Zv x1), (Zv x2), (Zv x3), (Zv x4)]) := shut_Packet
 obtain rfl := sj h
 exact ew_ret (res1 Z (.cell Z (own_loadVarA ho2 (Tryd.isAgg27 _) (Tryd.sizeOf27 _) Z))) ⟨_, Z, (hw2.mono hC3.back), hC3.bx⟩

theorem w_impl_sides_firstCommon {w : World} {M : Nat → Prop} (hG : ARep (RArr 4 RShape) w M shapes ⟨0, 0, none⟩) (hO : ∀ b, M b → b < w.heap.size) {v0p : Value} {a_s : List (List Span)} (h0 : VRep (RArr 4 (RSlice RSpan)) w M a_s v0p) {v1p : Value} {a_other : List (List Span)} (h1 : VRep (RArr 4 (RSlice RSpan)) w M a_other v1p) {r : Packet × Bool} (h : F.impl_sides_firstCommon a_s a_other = some r) :
  Calls Tryd.prog 196 [v0p, v1p].toArray w fun e w' => ∃ v, e = .returned v ∧ (∃ u0 u1, v = .tuple #[u0, u1] ∧ VRep RPacket w' M r.1 u0 ∧ VRep RBool w' M r.2 u1) ∧ BX No w w' := by
 have hC : Cx No w M w M := Cx.start hO (fun _ e => e.elim)
 refine walk (N := 32) Tryd.func196 Z Tryd.ntmps196 Z (cw_seq (cw_region (lw_op Z Z Z (ow_box (R := (RArr 4 (RSlice RSpan))) Z Z h0 hC fun p1 w1 hp1 hb1 hl1 hC1 => lw_op Z Z Z (ow_box (R := (RArr 4 (RSlice RSpan))) Z Z (VRep.mono hl1 h1) hC1 fun p2 w2 hp2 hb2 hl2 hC2 => lw_op Z Z Z (ow_alloc Z (Tryd.zeroValue27 _) hC2 fun g1 w3 hg1 hg2 ho1 hb3 hl3 hC3 => ?_))))))
 have hm1 : (Add g1 M) g1 := .inl Z
 refine lw_op Z Z Z (ow_assign Z Z (lw_nil (ew_then (cw_seq (cw_region (lw_op Z Z Z (ow_alloc Z (Tryd.zeroValue186 _) hC3 fun g2 w4 hg3 hg4 ho2 hb4 hl4 hC4 => ?_)))))))
 have hn1 := Nat.ne_of_lt (Nat.lt_of_lt_of_le ho1.lt hg3)
 have ho3 := ho1.no hb4
 have hm2 : (Add g2 (Add g1 M)) g1 := .inr hm1
 have hm3 : (Add g2 (Add g1 M)) g2 := .inl Z
 have ho4 : OwnA (RArr 4 RInt) w4 (Add g2 (Add g1 M)) g2 186 [0, 0, 0, 0] := OwnA.of ho2 ⟨Z, ⟨_, _, Z, (vint _).cells, _, _, Z, (vint _).cells, _, _, Z, (vint _).cells, _, _, Z, (vint _).cells, Z⟩⟩
 refine lw_nil (ew_then (cw_seq (cw_seq (cw_region (lw_op Z Z Z (ow_move Z Z (lw_nil (ew_then ?_))))))))
 replace h := bind_some h
 obtain ⟨lr1, hlr1, h⟩ := h
 refine cw_for hlr1 (fun s a w' => ∃ (M' : Nat → Prop), Fits 32 [(2, (.pointer (some p1))), (3, (.pointer (some p2))), (4, (Zw g1 0)), (6, (Zw g2 0)), (10, (Zv s.1))] a ∧ Le w4 (Add g2 (Add g1 M)) w' M' ∧ Cx No w M w' M' ∧ Own w' g1 27 #[(Zv s.2.1), (Zv s.2.2.1), (Zv s.2.2.2.1), (Zv s.2.2.2.2.1)] ∧ M' g1 ∧ OwnA (RArr 4 RInt) w' M' g2 186 s.2.2.2.2.2 ∧ M' g2) ?_ ?_ ?_
 · exact fun a ha => ⟨(Add g2 (Add g1 M)), ha.sub ⟨Z, Z, Z, Z, Z, Zt⟩, Le.refl _ _, hC4, ho3, hm2, ho4, hm3⟩
 ·
  rintro ⟨k1, k2, k3, k4, k5, y1⟩ a w5 sr1 ⟨M1, hF1, hl5, hC5, ho5, hm4, ho6, hm5⟩ hb5 hR1
  refine cw_at (E := [(2, (.pointer (some p1))), (3, (.pointer (some p2))), (4, (Zw g1 0)), (6, (Zw g2 0)), (10, (Zv k1))]) hF1 (cw_seq (cw_region (lw_op Z Z Z (ow_lss Z Z Z fun bb1 hbb1 => lw_nil (ew_then (cw_seq ?_))))))
  replace hb5 := cond_some hb5
  rcases hb5 with ⟨hc1, hb5⟩ | ⟨hc1, hb5⟩
  ·
   obtain rfl := hbb1.trans hc1
   refine cw_true Z (cw_skip (ew_then (cw_seq (cw_block (cw_seq (cw_region (lw_op Z Z Z (ow_move Z Z (lw_op Z Z Z (ow_assign Z Z (lw_nil (ew_then (cw_seq ?_)))))))))))))
   replace hb5 := bind_some hb5
   obtain ⟨x1, hx1, hb5⟩ := hb5
   replace hb5 := bind_some hb5
   obtain ⟨x2, hx2, hb5⟩ := hb5
   replace hb5 := bind_some hb5
   obtain ⟨x3, hx3, hb5⟩ := hb5
   have lz1 := ((((hl1.trans hl2).trans hl3).trans hl4).trans hl5)
   have lz2 := (((hl2.trans hl3).trans hl4).trans hl5)
   have lz3 := ((hl3.trans hl4).trans hl5)
   refine cw_sub (E' := [(2, (.pointer (some p1))), (3, (.pointer (some p2))), (4, (Zw g1 0)), (6, (Zw g2 0)), (7, (Zv k1)), (10, (Zv k1))]) ⟨Z, Z, Z, Z, Z, Z, Zt⟩ (cw_drawQ 11 [PEq (Zv k1), PA (RSlice RSpan) M1 x1, PV (RSlice RSpan) M1 x1, PEq (Zv k1), PA (RSlice RSpan) M1 x2, PV (RSlice RSpan) M1 x2, PT2 (PEq (Zv x3.1)) (PEq (.bool x3.2)), PT2 (PEq (Zv x3.1)) (PEq (.bool x3.2)), PEq (Zv x3.1), PEq (.bool x3.2), PEq (Zv x3.1)] (by kernel_rfl) Z (by kernel_rfl) ⟨Zq, PA.mono _ _ _, PV.mono _ _ _, Zq, PA.mono _ _ _, PV.mono _ _ _, (PT2.mono (Zq) (Zq)), (PT2.mono (Zq) (Zq)), Zq, Zq, Zq, Zt⟩ ⟨?_, ?_, ?_, ?_, ?_, ?_, ?_, ?_, ?_, ?_, ?_, Zt⟩ ?_)
   · exact fun w7 D hS1 hd1 => dg_sub (E' := [(7, (Zv k1))]) ⟨Z, Zt⟩ (dg_plain Z (ow_move Z Z Zb))
   ·
    intro w8 D hS2 hd2
    have hl8 := Le.no M1 hS2
    exact dg_sub (E' := [(14, (Zv k1)), (2, (.pointer (some p1)))]) ⟨dpE hd2 0 Z Z, Z, Zt⟩ (dg_plain Z (ow_indexArr (R := (RSlice RSpan)) Z Z Z (ARep.mono (lz2.trans hl8) hp1) Tryd.underlying131 (Tryd.sizeOf121 _) hx1 fun p5 hp5 => ⟨BX.refl _ _, ⟨_, Z, hp5⟩⟩))
   ·
    intro w9 D hS3 hd3
    have d2 : PA (RSlice RSpan) M1 x1 (D 1) w9 := dpA hd3 1 Z
    obtain ⟨p6, e1, ha1⟩ := d2
    exact dg_sub (E' := [(15, (.pointer (some p6)))]) ⟨congrArg some e1, Zt⟩ (dg_plain Z (ow_load (R := (RSlice RSpan)) Z Z ha1 (Tryd.sizeOf121 _) (Tryd.isAgg121 _) fun v12 hv12 => ⟨BX.refl _ _, hv12⟩))
   · exact fun w10 D hS4 hd4 => dg_sub (E' := [(7, (Zv k1))]) ⟨Z, Zt⟩ (dg_plain Z (ow_move Z Z Zb))
   ·
    intro w11 D hS5 hd5
    have hl11 := Le.no M1 hS5
    exact dg_sub (E' := [(17, (Zv k1)), (3, (.pointer (some p2)))]) ⟨dpE hd5 3 Z Z, Z, Zt⟩ (dg_plain Z (ow_indexArr (R := (RSlice RSpan)) Z Z Z (ARep.mono (lz3.trans hl11) hp2) Tryd.underlying131 (Tryd.sizeOf121 _) hx2 fun p7 hp7 => ⟨BX.refl _ _, ⟨_, Z, hp7⟩⟩))
   ·
    intro w12 D hS6 hd6
    have d4 : PA (RSlice RSpan) M1 x2 (D 4) w12 := dpA hd6 4 Z
    obtain ⟨p8, e2, ha2⟩ := d4
    exact dg_sub (E' := [(18, (.pointer (some p8)))]) ⟨congrArg some e2, Zt⟩ (dg_plain Z (ow_load (R := (RSlice RSpan)) Z Z ha2 (Tryd.sizeOf121 _) (Tryd.isAgg121 _) fun v13 hv13 => ⟨BX.refl _ _, hv13⟩))
   ·
    intro w13 D hS7 hd7
    have hl13 := Le.no M1 hS7
    have hC13 := hC5.no hS7
    have d5 : PV (RSlice RSpan) M1 x1 (D 2) w13 := dpA hd7 2 Z
    have d6 : PV (RSlice RSpan) M1 x2 (D 5) w13 := dpA hd7 5 Z
    generalize hq1 : (D 2) = v14 at d5
    generalize hq2 : (D 5) = v15 at d6
    refine dg_sub (E' := [(16, v14), (19, v15)]) ⟨congrArg some hq1, congrArg some hq2, Zt⟩ (dg_plain Z (ow_call Z Z Tryd.call199 (w_impl_firstCommon (hG.mono (lz1.trans hl13)) hC13.old d5 d6 hx3) fun v16 w14 hv16 => ?_))
    obtain ⟨⟨v17, v18, rfl, hv17, hv18⟩, hb7⟩ := hv16
    obtain rfl := vint_eq hv17
    obtain ⟨bb3, hbb3, rfl⟩ := vbool_ex hv18
    exact ⟨hb7, ⟨_, _, Z, Z, (congrArg Value.bool hbb3)⟩⟩
   ·
    intro w15 D hS8 hd8
    have d7 : PT2 (PEq (Zv x3.1)) (PEq (.bool x3.2)) (D 6) w15 := dpA hd8 6 Z
    obtain ⟨v19, v20, e3, hd9, hd10⟩ := d7
    subst hd9
    obtain ⟨bb4, hq3, rfl⟩ : ∃ b, b = x3.2 ∧ v20 = .bool b := ⟨_, rfl, hd10⟩
    exact dg_sub (E' := [(20, (.tuple #[(Zv x3.1), (.bool bb4)]))]) ⟨congrArg some e3, Zt⟩ (dg_plain Z (ow_move Z Z ⟨BX.refl _ _, ⟨_, _, Z, Z, (congrArg Value.bool hq3)⟩⟩))
   ·
    intro w16 D hS9 hd11
    have d8 : PT2 (PEq (Zv x3.1)) (PEq (.bool x3.2)) (D 7) w16 := dpA hd11 7 Z
    obtain ⟨v21, v22, e4, hd12, hd13⟩ := d8
    subst hd12
    obtain ⟨bb5, hq4, rfl⟩ : ∃ b, b = x3.2 ∧ v22 = .bool b := ⟨_, rfl, hd13⟩
    exact dg_sub (E' := [(13, (.tuple #[(Zv x3.1), (.bool bb5)]))]) ⟨congrArg some e4, Zt⟩ (dg_plain Z (ow_extract Z Z Z Zb))
   ·
    intro w17 D hS10 hd14
    have d9 : PT2 (PEq (Zv x3.1)) (PEq (.bool x3.2)) (D 7) w17 := dpA hd14 7 Z
    obtain ⟨v23, v24, e5, hd15, hd16⟩ := d9
    subst hd15
    obtain ⟨bb6, hq5, rfl⟩ : ∃ b, b = x3.2 ∧ v24 = .bool b := ⟨_, rfl, hd16⟩
    exact dg_sub (E' := [(13, (.tuple #[(Zv x3.1), (.bool bb6)]))]) ⟨congrArg some e5, Zt⟩ (dg_plain Z (ow_extract Z Z Z ⟨BX.refl _ _, (congrArg Value.bool hq5)⟩))
   · exact fun w18 D hS11 hd17 => dg_sub (E' := [(21, (Zv x3.1))]) ⟨dpE hd17 8 Z Z, Zt⟩ (dg_plain Z (ow_assign Z Z Zb))
   ·
    intro w19 D hS12 hd18
    have d30 : PEq (.bool x3.2) (D 9) w19 := dpA hd18 9 Z
    have hl19 := Le.no M1 hS12
    have hC19 := hC5.no hS12
    have ho33 := ho5.no hS12
    have ho34 := ho6.no hS12 hl19
    obtain ⟨bb7, hq6, hq7⟩ : ∃ b, b = x3.2 ∧ (D 9) = .bool b := ⟨_, rfl, d30⟩
    refine lw_sub (E' := [(22, (.bool bb7)), (8, (Zv x3.1)), (2, (.pointer (some p1))), (3, (.pointer (some p2))), (4, (Zw g1 0)), (6, (Zw g2 0)), (7, (Zv k1)), (10, (Zv k1))]) ⟨congrArg some hq7, dpE hd18 10 Z Z, Z, Z, Z, Z, Z, Z, Zt⟩ (lw_op Z Z Z (ow_assign Z Z (lw_nil (ew_then (cw_seq (cw_seq (cw_region (lw_op Z Z Z (ow_move Z Z (lw_op Z Z Z (ow_not Z Z (lw_nil (ew_then ?_)))))))))))))
    replace hb5 := cond_some hb5
    rcases hb5 with ⟨hc2, hb5⟩ | ⟨hc2, hb5⟩
    ·
     obtain rfl := hq6.trans hc2
     refine cw_false Z (cw_skip (ew_then (cw_region (lw_op Z Z Z (ow_move Z Z (lw_op Z Z Z (ow_move Z Z ?_)))))))
     replace hb5 := bind_some hb5
     obtain ⟨x4, hx4, hb5⟩ := hb5
     refine lw_op Z Z Z (ow_indexA (R := RInt) Z Z Z Z ho34 Tryd.underlying186 (Tryd.sizeOf3 _) hx4 (lw_op0 Z Z (ow_storeElA (X := No) (R := RInt) Z Z Z Z ho34 hx4 (Tryd.sizeOf3 _) (vint _) hm5 (.inl hg4) hC19 fun w20 ho35 hb8 hl20 hC20 => ?_)))
     have ho36 := ho33.go hb8 (fun e => hn1 e)
     refine lw_nil (ew_blockN (ew_then (cw_region (lw_op Z Z Z (ow_add Z Z Z (lw_op Z Z Z (ow_move Z Z (lw_nil ?_))))))))
     have lz4 := ((hl5.trans hl19).trans hl20)
     exact ew_nxt ((W (k1 + 1)), k2, k3, k4, k5, (List.set y1 (k1 : Int).toNat x3.1)) hb5 fun a ha => ⟨M1, (ha.sub ⟨Z, Z, Z, Z, Z, Zt⟩), lz4, hC20, ho36, hm4, ho35, hm5⟩
    ·
     obtain rfl := hq6.trans hc2
     refine cw_true Z (cw_seq (cw_region (lw_op Z Z Z (ow_build (v := .agg #[(Zv 0), (Zv 0), (Zv 0), (Zv 0)]) Z Z (by kernel_rfl) (lw_op0 Z Z (ow_store (X := No) (us := [(Zv 0), (Zv 0), (Zv 0), (Zv 0)]) (cs' := #[(Zv 0), (Zv 0), (Zv 0), (Zv 0)]) Z Z Z Z ho33 (Tryd.sizeOf27 _) Z Z Z Z hm4 (.inl hg2) Z hC19 fun w21 ho37 hb9 hl21 hC21 => lw_op Z Z Z (ow_assign Z Z (lw_nil (ew_then (cw_ret (ew_thenR (ew_blockR (ew_thenR (ew_thenR (ew_blockR (ew_brkR (ew_thenR ?_)))))))))))))))))
     have hw2 : VRep RPacket w21 M1 ({ From := 0, To := 0, Port := 0, Proto := 0 } : Packet) (.agg #[(Zv 0), (Zv 0), (Zv 0), (Zv 0)]) := shut_Packet
     have e6 := hR1 _ (sj hb5).symm
     subst e6
     obtain rfl := sj h
     exact ew_ret (res2 Z (.cell Z (own_loadVarA ho37 (Tryd.isAgg27 _) (Tryd.sizeOf27 _) Z)) (.tmp Z)) ⟨_, Z, ⟨_, _, Z, (hw2.mono hC21.back), ((vbool _))⟩, hC21.bx⟩
  ·
   obtain rfl := hbb1.trans hc1
   exact cw_false Z (cw_exit (ew_thenX (ew_thenX (ew_blockX (ew_brk (k1, k2, k3, k4, k5, y1) hb5 fun a ha => ⟨M1, (ha.sub ⟨Z, Z, Z, Z, Z, Zt⟩), hl5, hC5, ho5, hm4, ho6, hm5⟩)))))
 ·
  rintro ⟨k6, k7, k8, k9, k10, y2⟩ a w22 hlr2 ⟨M2, hF2, hl22, hC22, ho39, hm6, ho40, hm7⟩
  subst hlr2
  refine ew_at (E := [(2, (.pointer (some p1))), (3, (.pointer (some p2))), (4, (Zw g1 0)), (6, (Zw g2 0)), (10, (Zv k6))]) hF2 (ew_then (cw_seq (cw_region (lw_op Z Z Z (ow_loadA (R := (RArr 4 RInt)) Z Z Z ho40 (Tryd.sizeOf186 _) (Tryd.isAgg186 _) fun v31 hv31 => ?_)))))
  replace h := bind_some h
  obtain ⟨x5, hx5, h⟩ := h
  have lz5 := ((((hl1.trans hl2).trans hl3).trans hl4).trans hl22)
  refine lw_op Z Z Z (ow_call Z Z Tryd.call200 (w_impl_packetOf (hG.mono lz5) hC22.old hv31 hx5) fun v32 w23 hv32 => ?_)
  obtain ⟨hv32, hb10⟩ := hv32
  have hC23 := hC22.no hb10
  have ho41 := ho39.no hb10
  obtain rfl := open_Packet hv32
  refine lw_op0 Z Z (ow_store (X := No) (us := [(Zv x5.From), (Zv x5.To), (Zv x5.Port), (Zv x5.Proto)]) (cs' := #[(Zv x5.From), (Zv x5.To), (Zv x5.Port), (Zv x5.Proto)]) Z Z Z Z ho41 (Tryd.sizeOf27 _) Z Z Z Z hm6 (.inl hg2) Z hC23 fun w24 ho43 hb11 hl24 hC24 => lw_op Z Z Z (ow_assign Z Z (lw_nil (ew_then (cw_ret ?_)))))
  have hw3 : VRep RPacket w24 M2 ({ From := x5.From, To := x5.To, Port := x5.Port, Proto := x5.Proto } : Packet) (.agg #[(Zv x5.From), (Zv x5.To), (Zv x5.Port), (Zv x5.Proto)]) := shut_Packet
  obtain rfl := sj h
  exact ew_ret (res2 Z (.cell Z (own_loadVarA ho43 (Tryd.isAgg27 _) (Tryd.sizeOf27 _) Z)) (.tmp Z)) ⟨_, Z, ⟨_, _, Z, (hw3.mono hC24.back), ((vbool _))⟩, hC24.bx⟩

theorem w_impl_sides_touches {w : World} {M : Nat → Prop} (hG : ARep (RArr 4 RShape) w M shapes ⟨0, 0, none⟩) (hO : ∀ b, M b → b < w.heap.size) {v0p : Value} {a_s : List (List Span)} (h0 : VRep (RArr 4 (RSlice RSpan)) w M a_s v0p) {v1p : Value} {a_other : List (List Span)} (h1 : VRep (RArr 4 (RSlice RSpan)) w M a_other v1p) {r : Bool} (h : F.impl_sides_touches a_s a_other = some r) :
  Calls Tryd.prog 187 [v0p, v1p].toArray w fun e w' => ∃ v, e = .returned v ∧ VRep RBool w' M r v ∧ BX No w w' := by
 have hC : Cx No w M w M := Cx.start hO (fun _ e => e.elim)
 refine walk (N := 14) Tryd.func187 Z Tryd.ntmps187 Z (cw_seq (cw_region (lw_op Z Z Z (ow_box (R := (RArr 4 (RSlice RSpan))) Z Z h0 hC fun p1 w1 hp1 hb1 hl1 hC1 => lw_op Z Z Z (ow_box (R := (RArr 4 (RSlice RSpan))) Z Z (VRep.mono hl1 h1) hC1 fun p2 w2 hp2 hb2 hl2 hC2 => lw_op Z Z Z (ow_assign Z Z (lw_nil (ew_then (cw_seq (cw_region (lw_op Z Z Z (ow_load (R := (RArr 4 (RSlice RSpan))) Z Z (ARep.mono hl2 hp1) (Tryd.sizeOf131 _) (Tryd.isAgg131 _) fun v1 hv1 => lw_op Z Z Z (ow_load (R := (RArr 4 (RSlice RSpan))) Z Z hp2 (Tryd.sizeOf131 _) (Tryd.isAgg131 _) fun v2 hv2 => ?_)))))))))))))
 replace h := bind_some h
 obtain ⟨x1, hx1, h⟩ := h
 refine lw_op Z Z Z (ow_call Z Z Tryd.call196 (w_impl_sides_firstCommon (hG.mono (hl1.trans hl2)) hC2.old hv1 hv2 hx1) fun v3 w3 hv3 => ?_)
 obtain ⟨⟨v4, v5, rfl, hv4, hv5⟩, hb3⟩ := hv3
 have hC3 := hC2.no hb3
 obtain ⟨bb1, hbb1, rfl⟩ := vbool_ex hv5
 refine lw_op Z Z Z (ow_move Z Z (lw_op Z Z Z (ow_extract Z Z Z (lw_op Z Z Z (ow_extract Z Z Z (lw_allocStore (R := RPacket) Z Z Z Z Z Z Z Tryd.zeroValue27 Tryd.sizeOf27 Z Z Z (by simp) hv4 hC3 fun p3 w4 hp3 hb4 hl4 hC4 => lw_op Z Z Z (ow_assign Z Z (lw_nil (ew_then (cw_seq (cw_region (lw_op Z Z Z (ow_move Z Z (lw_op Z Z Z (ow_assign Z Z (lw_nil (ew_then (cw_ret ?_))))))))))))))))))
 obtain rfl := sj h
 exact ew_ret (res1 Z (.tmp Z)) ⟨_, Z, ((vbool_of hbb1)), hC4.bx⟩

theorem w_impl_inFirstOnly {w : World} {M : Nat → Prop} (_hG : ARep (RArr 4 RShape) w M shapes ⟨0, 0, none⟩) (hO : ∀ b, M b → b < w.heap.size) {b0 a_inA : Bool} (h0 : b0 = a_inA) {b1 a_inB : Bool} (h1 : b1 = a_inB) {r : Bool} (h : F.impl_inFirstOnly a_inA a_inB = some r) :
  Calls Tryd.prog 170 [(.bool b0), (.bool b1)].toArray w fun e w' => ∃ v, e = .returned v ∧ VRep RBool w' M r v ∧ BX No w w' := by
 have hC : Cx No w M w M := Cx.start hO (fun _ e => e.elim)
 clear _hG
 refine walk (N := 10) Tryd.func170 Z Tryd.ntmps170 Z (cw_seq (cw_region (lw_op Z Z Z (ow_assign Z Z (lw_nil (ew_then (cw_seq (cw_region (lw_op Z Z Z (ow_move Z Z (lw_op Z Z Z (ow_move Z Z ?_))))))))))))
 replace h := cond_some h
 rcases h with ⟨hc1, h⟩ | ⟨hc1, h⟩
 ·
  obtain rfl := h0.trans hc1
  refine lw_on Z Z Z Z Z Z (ow_move Z Z (lw_on Z Z Z Z Z Z (ow_not Z Z (lw_op Z Z Z (ow_pickT Z Z Z (lw_op Z Z Z (ow_assign Z Z (lw_nil (ew_then (cw_ret ?_))))))))))
  obtain rfl := sj h
  exact ew_ret (res1 Z (.tmp Z)) ⟨_, Z, ((vbool_of (congrArg (! ·) h1))), hC.bx⟩
 ·
  obtain rfl := h0.trans hc1
  refine lw_off Z Z Z Z Z Z (lw_off Z Z Z Z Z Z (lw_op Z Z Z (ow_pickF Z Z Z (lw_op Z Z Z (ow_assign Z Z (lw_nil (ew_then (cw_ret ?_))))))))
  obtain rfl := sj h
  exact ew_ret (res1 Z (.tmp Z)) ⟨_, Z, ((vbool _)), hC.bx⟩

theorem w_impl_sweepSpans__impl_inFirstOnly {w : World} {M : Nat → Prop} (hG : ARep (RArr 4 RShape) w M shapes ⟨0, 0, none⟩) (hO : ∀ b, M b → b < w.heap.size) {v0p : Value} {a_a : List Span} (h0 : VRep (RSlice RSpan) w M a_a v0p) {v1p : Value} {a_b : List Span} (h1 : VRep (RSlice RSpan) w M a_b v1p) {a_top : Int} {r : (List Span)} (h : F.impl_sweepSpans__impl_inFirstOnly a_a a_b a_top = some r) :
  Calls Tryd.prog 169 [v0p, v1p, (.int .i64 a_top), (.func (.func 170) #[] #[])].toArray w fun e w' => ∃ v, e = .returned v ∧ VRep (RSlice RSpan) w' M r v ∧ BX No w w' := by
 obtain ⟨i120, hi120, hz120, hs120, hy120⟩ := info120
 have hC : Cx No w M w M := Cx.start hO (fun _ e => e.elim)
 refine walk (N := 107) Tryd.func169 Z Tryd.ntmps169 Z (cw_seq (cw_region (lw_op Z Z Z (ow_assign Z Z (lw_nil (ew_then (cw_seq (cw_region (lw_op Z Z Z (ow_assign Z Z (lw_nil (ew_then (cw_seq (cw_region (lw_op Z Z Z (ow_assign Z Z (lw_op Z Z Z (ow_assign Z Z (lw_nil (ew_then (cw_seq (cw_seq (cw_region (lw_op Z Z Z (ow_assign Z Z (lw_nil (ew_then ?_)))))))))))))))))))))))))))
 have hr1 : OwnRow RSpan w.heap.size 120 w M ([] : List Span) (.slice none 0 0) := ownrow_nil
 replace h := bind_some h
 obtain ⟨lr1, hlr1, h⟩ := h
 refine cw_for hlr1 (fun s a w' => ∃ (M' : Nat → Prop) (v0c : Value), Fits 107 [(0, v0p), (1, v1p), (2, (Zv a_top)), (3, (.func (.func 170) #[] #[])), (9, v0c), (10, (Zv s.2.1)), (11, (Zv s.2.2.1)), (12, (Zv s.2.2.2))] a ∧ Le w M w' M' ∧ Cx No w M w' M' ∧ OwnRow RSpan w.heap.size 120 w' M' s.1 v0c) ?_ ?_ ?_
 · exact fun a ha => ⟨M, (.slice none 0 0), ha.sub ⟨Z, Z, Z, Z, Z, Z, Z, Z, Zt⟩, Le.refl _ _, hC, hr1⟩
 ·
  rintro ⟨y1, k1, k2, k3⟩ a w1 sr1 ⟨M1, v1, hF1, hl1, hC1, hw1⟩ hb1 hR1
  refine cw_at (E := [(0, v0p), (1, v1p), (2, (Zv a_top)), (3, (.func (.func 170) #[] #[])), (9, v1), (10, (Zv k1)), (11, (Zv k2)), (12, (Zv k3))]) hF1 (cw_seq (cw_seq (cw_region (lw_op Z Z Z (ow_move Z Z (lw_op Z Z Z (ow_move Z Z (lw_op Z Z Z (ow_leq Z Z Z fun bb1 hbb1 => lw_nil (ew_then ?_))))))))))
  replace hb1 := cond_some hb1
  rcases hb1 with ⟨hc1, hb1⟩ | ⟨hc1, hb1⟩
  ·
   obtain rfl := hbb1.trans hc1
   refine cw_true Z (cw_skip (ew_then (cw_block (cw_seq ?_))))
   replace hb1 := bind_some hb1
   obtain ⟨lr2, hlr2, hb1⟩ := hb1
   refine cw_for hlr2 (fun s a w' => ∃ (M' : Nat → Prop), Fits 107 [(0, v0p), (1, v1p), (2, (Zv a_top)), (3, (.func (.func 170) #[] #[])), (9, v1), (10, (Zv s.1)), (11, (Zv k2)), (12, (Zv k3))] a ∧ Le w1 M1 w' M' ∧ Cx No w M w' M' ∧ OwnRow RSpan w.heap.size 120 w' M' s.2 v1) ?_ ?_ ?_
   · exact fun a ha => ⟨M1, ha.sub ⟨Z, Z, Z, Z, Z, Z, Z, Z, Zt⟩, Le.refl _ _, hC1, hw1⟩
   ·
    rintro ⟨k4, y2⟩ a w2 sr2 ⟨M2, hF2, hl2, hC2, hw2⟩ hb2 hR2
    refine cw_at (E := [(0, v0p), (1, v1p), (2, (Zv a_top)), (3, (.func (.func 170) #[] #[])), (9, v1), (10, (Zv k4)), (11, (Zv k2)), (12, (Zv k3))]) hF2 (cw_seq (cw_seq (cw_region (lw_op Z Z Z (ow_move Z Z (lw_op Z Z Z (ow_move Z Z (lw_op Z Z Z (ow_len Z Z (VRep.mono (hl1.trans hl2) h0) Tryd.underlying121 Z (lw_op Z Z Z (ow_lss Z Z Z fun bb2 hbb2 => lw_op Z Z Z (ow_move Z Z ?_))))))))))))
    replace hb2 := cond_some hb2
    rcases hb2 with ⟨hc2, hb2⟩ | ⟨hc2, hb2⟩
    ·
     obtain rfl := hbb2.trans hc2
     refine lw_on Z Z Z Z Z Z (ow_move Z Z (lw_on Z Z Z Z Z Z (ow_move Z Z ?_)))
     replace hb2 := bind_some hb2
     obtain ⟨x1, hx1, hb2⟩ := hb2
     refine lw_on Z Z Z Z Z Z (ow_indexSlice (R := RSpan) Z Z Z (VRep.mono (hl1.trans hl2) h0) Tryd.underlying121 (Tryd.sizeOf120 _) hx1 fun p1 hp1 => lw_on Z Z Z Z Z Z (ow_fieldAddr Z Z Tryd.underlying120 Z (Tryd.sizeOf3 _) (lw_on Z Z Z Z Z Z (ow_load (R := RInt) Z Z (hp1.fld fld_Span_Hi) (Tryd.sizeOf3 _) (Tryd.isAgg3 _) fun v7 hv7 => ?_))))
     obtain rfl := vint_eq hv7
     refine lw_on Z Z Z Z Z Z (ow_move Z Z (lw_on Z Z Z Z Z Z (ow_lss Z Z Z fun bb3 hbb3 => lw_op Z Z Z (ow_pickT Z Z Z (lw_nil (ew_then ?_))))))
     replace hb2 := cond_some hb2
     rcases hb2 with ⟨hc3, hb2⟩ | ⟨hc3, hb2⟩
     ·
      obtain rfl := hbb3.trans hc3
      exact cw_true Z (cw_skip (ew_then (cw_block (cw_region (lw_op Z Z Z (ow_move Z Z (lw_op Z Z Z (ow_add Z Z Z (lw_op Z Z Z (ow_assign Z Z (lw_nil (ew_blockN (ew_nxt ((W (k4 + 1)), y2) hb2 fun a ha => ⟨M2, (ha.sub ⟨Z, Z, Z, Z, Z, Z, Z, Z, Zt⟩), hl2, hC2, hw2⟩)))))))))))))
     ·
      obtain rfl := hbb3.trans hc3
      exact cw_false Z (cw_exit (ew_thenX (ew_thenX (ew_blockX (ew_brk (k4, y2) hb2 fun a ha => ⟨M2, (ha.sub ⟨Z, Z, Z, Z, Z, Z, Z, Z, Zt⟩), hl2, hC2, hw2⟩)))))
    ·
     obtain rfl := hbb2.trans hc2
     exact lw_off Z Z Z Z Z Z (lw_off Z Z Z Z Z Z (lw_off Z Z Z Z Z Z (lw_off Z Z Z Z Z Z (lw_off Z Z Z Z Z Z (lw_off Z Z Z Z Z Z (lw_off Z Z Z Z Z Z (lw_op Z Z Z (ow_pickF Z Z Z (lw_nil (ew_then (cw_false Z (cw_exit (ew_thenX (ew_thenX (ew_blockX (ew_brk (k4, y2) hb2 fun a ha => ⟨M2, (ha.sub ⟨Z, Z, Z, Z, Z, Z, Z, Z, Zt⟩), hl2, hC2, hw2⟩))))))))))))))))
   ·
    rintro ⟨k5, y3⟩ a w3 hlr3 ⟨M3, hF3, hl3, hC3, hw3⟩
    subst hlr3
    refine ew_at (E := [(0, v0p), (1, v1p), (2, (Zv a_top)), (3, (.func (.func 170) #[] #[])), (9, v1), (10, (Zv k5)), (11, (Zv k2)), (12, (Zv k3))]) hF3 (ew_then (cw_seq ?_))
    replace hb1 := bind_some hb1
    obtain ⟨lr3, hlr4, hb1⟩ := hb1
    refine cw_for hlr4 (fun s a w' => ∃ (M' : Nat → Prop), Fits 107 [(0, v0p), (1, v1p), (2, (Zv a_top)), (3, (.func (.func 170) #[] #[])), (9, v1), (10, (Zv k5)), (11, (Zv s.1)), (12, (Zv k3))] a ∧ Le w3 M3 w' M' ∧ Cx No w M w' M' ∧ OwnRow RSpan w.heap.size 120 w' M' s.2 v1) ?_ ?_ ?_
    · exact fun a ha => ⟨M3, ha.sub ⟨Z, Z, Z, Z, Z, Z, Z, Z, Zt⟩, Le.refl _ _, hC3, hw3⟩
    ·
     rintro ⟨k6, y4⟩ a w4 sr3 ⟨M4, hF4, hl4, hC4, hw4⟩ hb3 hR3
     refine cw_at (E := [(0, v0p), (1, v1p), (2, (Zv a_top)), (3, (.func (.func 170) #[] #[])), (9, v1), (10, (Zv k5)), (11, (Zv k6)), (12, (Zv k3))]) hF4 (cw_seq (cw_seq (cw_region (lw_op Z Z Z (ow_move Z Z (lw_op Z Z Z (ow_move Z Z ?_)))))))
     have lz1 := ((hl1.trans hl3).trans hl4)
     refine lw_op Z Z Z (ow_len Z Z (VRep.mono lz1 h1) Tryd.underlying121 Z (lw_op Z Z Z (ow_lss Z Z Z fun bb4 hbb4 => lw_op Z Z Z (ow_move Z Z ?_))))
     replace hb3 := cond_some hb3
     rcases hb3 with ⟨hc4, hb3⟩ | ⟨hc4, hb3⟩
     ·
      obtain rfl := hbb4.trans hc4
      refine lw_on Z Z Z Z Z Z (ow_move Z Z (lw_on Z Z Z Z Z Z (ow_move Z Z ?_)))
      replace hb3 := bind_some hb3
      obtain ⟨x2, hx2, hb3⟩ := hb3
      refine lw_on Z Z Z Z Z Z (ow_indexSlice (R := RSpan) Z Z Z (VRep.mono lz1 h1) Tryd.underlying121 (Tryd.sizeOf120 _) hx2 fun p2 hp2 => lw_on Z Z Z Z Z Z (ow_fieldAddr Z Z Tryd.underlying120 Z (Tryd.sizeOf3 _) (lw_on Z Z Z Z Z Z (ow_load (R := RInt) Z Z (hp2.fld fld_Span_Hi) (Tryd.sizeOf3 _) (Tryd.isAgg3 _) fun v12 hv12 => ?_))))
      obtain rfl := vint_eq hv12
      refine lw_on Z Z Z Z Z Z (ow_move Z Z (lw_on Z Z Z Z Z Z (ow_lss Z Z Z fun bb5 hbb5 => lw_op Z Z Z (ow_pickT Z Z Z (lw_nil (ew_then ?_))))))
      replace hb3 := cond_some hb3
      rcases hb3 with ⟨hc5, hb3⟩ | ⟨hc5, hb3⟩
      ·
       obtain rfl := hbb5.trans hc5
       exact cw_true Z (cw_skip (ew_then (cw_block (cw_region (lw_op Z Z Z (ow_move Z Z (lw_op Z Z Z (ow_add Z Z Z (lw_op Z Z Z (ow_assign Z Z (lw_nil (ew_blockN (ew_nxt ((W (k6 + 1)), y4) hb3 fun a ha => ⟨M4, (ha.sub ⟨Z, Z, Z, Z, Z, Z, Z, Z, Zt⟩), hl4, hC4, hw4⟩)))))))))))))
      ·
       obtain rfl := hbb5.trans hc5
       exact cw_false Z (cw_exit (ew_thenX (ew_thenX (ew_blockX (ew_brk (k6, y4) hb3 fun a ha => ⟨M4, (ha.sub ⟨Z, Z, Z, Z, Z, Z, Z, Z, Zt⟩), hl4, hC4, hw4⟩)))))
     ·
      obtain rfl := hbb4.trans hc4
      exact lw_off Z Z Z Z Z Z (lw_off Z Z Z Z Z Z (lw_off Z Z Z Z Z Z (lw_off Z Z Z Z Z Z (lw_off Z Z Z Z Z Z (lw_off Z Z Z Z Z Z (lw_off Z Z Z Z Z Z (lw_op Z Z Z (ow_pickF Z Z Z (lw_nil (ew_then (cw_false Z (cw_exit (ew_thenX (ew_thenX (ew_blockX (ew_brk (k6, y4) hb3 fun a ha => ⟨M4, (ha.sub ⟨Z, Z, Z, Z, Z, Z, Z, Z, Zt⟩), hl4, hC4, hw4⟩))))))))))))))))
    ·
     rintro ⟨k7, y5⟩ a w5 hlr5 ⟨M5, hF5, hl5, hC5, hw5⟩
     subst hlr5
     refine ew_at (E := [(0, v0p), (1, v1p), (2, (Zv a_top)), (3, (.func (.func 170) #[] #[])), (9, v1), (10, (Zv k5)), (11, (Zv k7)), (12, (Zv k3))]) hF5 (ew_then (cw_seq (cw_region (lw_op Z Z Z (ow_move Z Z (lw_op Z Z Z (ow_move Z Z ?_)))))))
     replace hb1 := bind_some hb1
     obtain ⟨y6, hy6, hb1⟩ := hb1
     have lz2 := ((hl1.trans hl3).trans hl5)
     refine lw_op Z Z Z (ow_sliceFrom (R := RSpan) Z Z Z (VRep.mono lz2 h0) Tryd.underlying121 (Tryd.sizeOf120 _) (dropF_some hy6).2 fun v15 hv15 => ?_)
     rw [← (dropF_some hy6).1] at hv15
     refine lw_op Z Z Z (ow_move Z Z (lw_op Z Z Z (ow_move Z Z ?_)))
     replace hb1 := bind_some hb1
     obtain ⟨x3, hx3, hb1⟩ := hb1
     refine lw_op Z Z Z (ow_call Z Z Tryd.call193 (w_impl_stretch (hG.mono lz2) hC5.old hv15 hx3) fun v16 w6 hv16 => ?_)
     obtain ⟨⟨v17, v18, rfl, hv17, hv18⟩, hb4⟩ := hv16
     have hl6 := Le.no M5 hb4
     have hC6 := hC5.no hb4
     have hr2 := hw5.no hb4
     obtain ⟨bb6, hbb6, rfl⟩ := vbool_ex hv17
     obtain rfl := vint_eq hv18
     refine lw_op Z Z Z (ow_move Z Z (lw_op Z Z Z (ow_extract Z Z Z (lw_op Z Z Z (ow_extract Z Z Z (lw_op Z Z Z (ow_assign Z Z (lw_op Z Z Z (ow_assign Z Z (lw_nil (ew_then (cw_seq (cw_region (lw_op Z Z Z (ow_move Z Z (lw_op Z Z Z (ow_move Z Z ?_)))))))))))))))))
     replace hb1 := bind_some hb1
     obtain ⟨y7, hy7, hb1⟩ := hb1
     refine lw_op Z Z Z (ow_sliceFrom (R := RSpan) Z Z Z (VRep.mono (lz2.trans hl6) h1) Tryd.underlying121 (Tryd.sizeOf120 _) (dropF_some hy7).2 fun v19 hv19 => ?_)
     rw [← (dropF_some hy7).1] at hv19
     refine lw_op Z Z Z (ow_move Z Z (lw_op Z Z Z (ow_move Z Z ?_)))
     replace hb1 := bind_some hb1
     obtain ⟨x4, hx4, hb1⟩ := hb1
     refine lw_op Z Z Z (ow_call Z Z Tryd.call193 (w_impl_stretch (hG.mono (lz2.trans hl6)) hC6.old hv19 hx4) fun v20 w7 hv20 => ?_)
     obtain ⟨⟨v21, v22, rfl, hv21, hv22⟩, hb5⟩ := hv20
     have hl7 := Le.no M5 hb5
     have hC7 := hC6.no hb5
     have hr3 := hr2.no hb5
     obtain ⟨bb7, hbb7, rfl⟩ := vbool_ex hv21
     obtain rfl := vint_eq hv22
     refine lw_op Z Z Z (ow_move Z Z (lw_op Z Z Z (ow_extract Z Z Z (lw_op Z Z Z (ow_extract Z Z Z (lw_op Z Z Z (ow_assign Z Z (lw_op Z Z Z (ow_assign Z Z (lw_nil (ew_then (cw_seq (cw_region (lw_op Z Z Z (ow_move Z Z (lw_op Z Z Z (ow_move Z Z (lw_op Z Z Z (ow_min Z Z Z (lw_op Z Z Z (ow_assign Z Z (lw_nil (ew_then (cw_seq (cw_seq (cw_region (lw_op Z Z Z (ow_move Z Z (lw_op Z Z Z (ow_move Z Z (lw_op Z Z Z (ow_move Z Z ?_))))))))))))))))))))))))))))))))
     replace hb1 := bind_some hb1
     obtain ⟨x5, hx5, hb1⟩ := hb1
     have lz3 := ((lz2.trans hl6).trans hl7)
     refine lw_op Z Z Z (ow_callv Z Z Z Tryd.call170 (w_impl_inFirstOnly (hG.mono lz3) hC7.old hbb6 hbb7 hx5) fun v23 w8 hv23 => ?_)
     obtain ⟨hv23, hb6⟩ := hv23
     have hl8 := Le.no M5 hb6
     have hC8 := hC7.no hb6
     have hr4 := hr3.no hb6
     obtain rfl := vbool_eq hv23
     refine lw_nil (ew_then ?_)
     replace hb1 := cond_some hb1
     rcases hb1 with ⟨hc6, hb1⟩ | ⟨hc6, hb1⟩
     ·
      subst hc6
      refine cw_true Z (cw_seq (cw_region (lw_op Z Z Z (ow_move Z Z (lw_op Z Z Z (ow_lenOwn Z Z hr4 Tryd.underlying121 (lw_op Z Z Z (ow_assign Z Z (lw_nil (ew_then (cw_seq (cw_region (lw_op Z Z Z (ow_move Z Z (lw_op Z Z Z (ow_gtr Z Z Z fun bb8 hbb8 => lw_op Z Z Z (ow_move Z Z ?_)))))))))))))))))
      replace hb1 := cond_some hb1
      rcases hb1 with ⟨hc7, hb1⟩ | ⟨hc7, hb1⟩
      ·
       obtain rfl := hbb8.trans hc7
       refine lw_on Z Z Z Z Z Z (ow_move Z Z (lw_on Z Z Z Z Z Z (ow_move Z Z (lw_on Z Z Z Z Z Z (ow_sub Z Z Z ?_)))))
       replace hb1 := bind_some hb1
       obtain ⟨x6, hx6, hb1⟩ := hb1
       refine lw_on Z Z Z Z Z Z (ow_indexRow (R := RSpan) Z Z Z hr4 Tryd.underlying121 (Tryd.sizeOf120 _) hx6 (lw_on Z Z Z Z Z Z (ow_fieldAddr Z Z Tryd.underlying120 Z (Tryd.sizeOf3 _) (lw_on Z Z Z Z Z Z (ow_loadElRow (R := RSpan) (S := RInt) Z Z Z hr4 (orow_blk hr4 hx6) hx6 fld_Span_Hi (Tryd.sizeOf3 _) (Tryd.isAgg3 _) fun v24 hv24 => ?_)))))
       obtain rfl := vint_eq hv24
       refine lw_on Z Z Z Z Z Z (ow_add Z Z Z (lw_on Z Z Z Z Z Z (ow_move Z Z (lw_on Z Z Z Z Z Z (ow_eqlI Z Z Z fun bb9 hbb9 => lw_op Z Z Z (ow_pickT Z Z Z (lw_nil (ew_then ?_))))))))
       replace hb1 := cond_some hb1
       rcases hb1 with ⟨hc8, hb1⟩ | ⟨hc8, hb1⟩
       ·
        obtain rfl := hbb9.trans hc8
        refine cw_true Z (cw_region (lw_op Z Z Z (ow_move Z Z (lw_op Z Z Z (ow_move Z Z (lw_op Z Z Z (ow_sub Z Z Z (lw_op Z Z Z (ow_move Z Z (lw_op Z Z Z (ow_indexRow (R := RSpan) Z Z Z hr4 Tryd.underlying121 (Tryd.sizeOf120 _) hx6 (lw_op Z Z Z (ow_fieldAddr Z Z Tryd.underlying120 Z (Tryd.sizeOf3 _) (lw_op0 Z Z (ow_storeElRow (X := No) (R := RSpan) (S := RInt) Z Z Z Z hr4 (orow_blk hr4 hx6) hx6 set_Span_Hi (Tryd.sizeOf3 _) (vint _) (Nat.le_refl _) hC8 fun w9 ho1 hb7 hl9 hC9 => lw_nil (ew_then (cw_region (lw_op Z Z Z (ow_move Z Z (lw_op Z Z Z (ow_add Z Z Z (lw_op Z Z Z (ow_assign Z Z (lw_nil (ew_blockN ?_)))))))))))))))))))))))))
        have lz4 := ((lz3.trans hl8).trans hl9)
        exact ew_nxt ((List.set y5 ((W ((y5.length : Int) - 1)) : Int).toNat { x6 with Hi := (imin x3.2 x4.2) }), k5, k7, (W ((imin x3.2 x4.2) + 1))) hb1 fun a ha => ⟨M5, v1, (ha.sub ⟨Z, Z, Z, Z, Z, Z, Z, Z, Zt⟩), lz4, hC9, ho1⟩
       ·
        obtain rfl := hbb9.trans hc8
        refine cw_false Z (cw_region (lw_op Z Z Z (ow_move Z Z (lw_op Z Z Z (ow_move Z Z (lw_op Z Z Z (ow_move Z Z (lw_op Z Z Z (ow_build (v := .agg #[(Zv k3), (Zv (imin x3.2 x4.2))]) Z Z (by kernel_rfl) ?_)))))))))
        have hw6 : VRep RSpan w8 M5 ({ Lo := k3, Hi := (imin x3.2 x4.2) } : Span) (.agg #[(Zv k3), (Zv (imin x3.2 x4.2))]) := shut_Span
        refine lw_op Z Z Z (ow_buildSlice (R := RSpan) (xs := [({ Lo := k3, Hi := (imin x3.2 x4.2) } : Span)]) (cs := #[(Zv k3), (Zv (imin x3.2 x4.2))]) (e := 120) Z Z (by kernel_rfl) Z Z ⟨_, _, Z, hw6.cells, Z⟩ hC8 fun p3 w10 hw7 hb8 hl10 hC10 => ?_)
        have hr5 := hr4.no hb8
        replace hb1 := bind_some hb1
        obtain ⟨z1, hz1, hb1⟩ := hb1
        refine lw_op Z Z Z (ow_append (R := RSpan) Z Z Z Z Tryd.underlying121 hi120 hz120 hs120 hy120 Z Z Z Z hr5 hw7 hz1 hC10 fun v25 w11 M6 hr6 hb9 hl11 hC11 hM1 hat1 => lw_op Z Z Z (ow_assign Z Z (lw_nil (ew_then (cw_region (lw_op Z Z Z (ow_move Z Z (lw_op Z Z Z (ow_add Z Z Z (lw_op Z Z Z (ow_assign Z Z (lw_nil (ew_blockN ?_)))))))))))))
        have lz5 := (((lz3.trans hl8).trans hl10).trans hl11)
        exact ew_nxt (z1, k5, k7, (W ((imin x3.2 x4.2) + 1))) hb1 fun a ha => ⟨M6, v25, (ha.sub ⟨Z, Z, Z, Z, Z, Z, Z, Z, Zt⟩), lz5, hC11, hr6⟩
      ·
       obtain rfl := hbb8.trans hc7
       refine lw_off Z Z Z Z Z Z (lw_off Z Z Z Z Z Z (lw_off Z Z Z Z Z Z (lw_off Z Z Z Z Z Z (lw_off Z Z Z Z Z Z (lw_off Z Z Z Z Z Z (lw_off Z Z Z Z Z Z (lw_off Z Z Z Z Z Z (lw_off Z Z Z Z Z Z (lw_op Z Z Z (ow_pickF Z Z Z (lw_nil (ew_then (cw_false Z (cw_region (lw_op Z Z Z (ow_move Z Z (lw_op Z Z Z (ow_move Z Z (lw_op Z Z Z (ow_move Z Z (lw_op Z Z Z (ow_build (v := .agg #[(Zv k3), (Zv (imin x3.2 x4.2))]) Z Z (by kernel_rfl) ?_))))))))))))))))))))))
       have hw8 : VRep RSpan w8 M5 ({ Lo := k3, Hi := (imin x3.2 x4.2) } : Span) (.agg #[(Zv k3), (Zv (imin x3.2 x4.2))]) := shut_Span
       refine lw_op Z Z Z (ow_buildSlice (R := RSpan) (xs := [({ Lo := k3, Hi := (imin x3.2 x4.2) } : Span)]) (cs := #[(Zv k3), (Zv (imin x3.2 x4.2))]) (e := 120) Z Z (by kernel_rfl) Z Z ⟨_, _, Z, hw8.cells, Z⟩ hC8 fun p4 w12 hw9 hb10 hl12 hC12 => ?_)
       have hr7 := hr4.no hb10
       replace hb1 := bind_some hb1
       obtain ⟨z2, hz2, hb1⟩ := hb1
       refine lw_op Z Z Z (ow_append (R := RSpan) Z Z Z Z Tryd.underlying121 hi120 hz120 hs120 hy120 Z Z Z Z hr7 hw9 hz2 hC12 fun v26 w13 M7 hr8 hb11 hl13 hC13 hM2 hat2 => lw_op Z Z Z (ow_assign Z Z (lw_nil (ew_then (cw_region (lw_op Z Z Z (ow_move Z Z (lw_op Z Z Z (ow_add Z Z Z (lw_op Z Z Z (ow_assign Z Z (lw_nil (ew_blockN ?_)))))))))))))
       have lz6 := (((lz3.trans hl8).trans hl12).trans hl13)
       exact ew_nxt (z2, k5, k7, (W ((imin x3.2 x4.2) + 1))) hb1 fun a ha => ⟨M7, v26, (ha.sub ⟨Z, Z, Z, Z, Z, Z, Z, Z, Zt⟩), lz6, hC13, hr8⟩
     ·
      subst hc6
      exact cw_false Z (cw_skip (ew_then (cw_region (lw_op Z Z Z (ow_move Z Z (lw_op Z Z Z (ow_add Z Z Z (lw_op Z Z Z (ow_assign Z Z (lw_nil (ew_blockN (ew_nxt (y5, k5, k7, (W ((imin x3.2 x4.2) + 1))) hb1 fun a ha => ⟨M5, v1, (ha.sub ⟨Z, Z, Z, Z, Z, Z, Z, Z, Zt⟩), (lz3.trans hl8), hC8, hr4⟩))))))))))))
  ·
   obtain rfl := hbb1.trans hc1
   exact cw_false Z (cw_exit (ew_thenX (ew_thenX (ew_blockX (ew_brk (y1, k1, k2, k3) hb1 fun a ha => ⟨M1, v1, (ha.sub ⟨Z, Z, Z, Z, Z, Z, Z, Z, Zt⟩), hl1, hC1, hw1⟩)))))
 ·
  rintro ⟨y8, k8, k9, k10⟩ a w14 hlr6 ⟨M8, v27, hF6, hl14, hC14, hw10⟩
  subst hlr6
  refine ew_at (E := [(0, v0p), (1, v1p), (2, (Zv a_top)), (3, (.func (.func 170) #[] #[])), (9, v27), (10, (Zv k8)), (11, (Zv k9)), (12, (Zv k10))]) hF6 (ew_then (cw_seq (cw_region (lw_op Z Z Z (ow_move Z Z (lw_op Z Z Z (ow_assign Z Z (lw_nil (ew_then (cw_ret ?_))))))))))
  obtain rfl := sj h
  exact ew_ret (res1 Z (.tmp Z)) ⟨_, Z, (hw10.freezeBack hC14 hO), hC14.bx⟩

theorem w_impl_lessSpans {w : World} {M : Nat → Prop} (hG : ARep (RArr 4 RShape) w M shapes ⟨0, 0, none⟩) (hO : ∀ b, M b → b < w.heap.size) {v0p : Value} {a_a : List Span} (h0 : VRep (RSlice RSpan) w M a_a v0p) {v1p : Value} {a_b : List Span} (h1 : VRep (RSlice RSpan) w M a_b v1p) {a_top : Int} {r : (List Span) × Bool} (h : F.impl_lessSpans a_a a_b a_top = some r) :
  Calls Tryd.prog 188 [v0p, v1p, (.int .i64 a_top)].toArray w fun e w' => ∃ v, e = .returned v ∧ (∃ u0 u1, v = .tuple #[u0, u1] ∧ VRep (RSlice RSpan) w' M r.1 u0 ∧ VRep RBool w' M r.2 u1) ∧ BX No w w' := by
 have hC : Cx No w M w M := Cx.start hO (fun _ e => e.elim)
 refine walk (N := 15) Tryd.func188 Z Tryd.ntmps188 Z (cw_seq (cw_region (lw_op Z Z Z (ow_assign Z Z (lw_op Z Z Z (ow_assign Z Z (lw_nil (ew_then (cw_seq (cw_region (lw_op Z Z Z (ow_move Z Z (lw_op Z Z Z (ow_move Z Z (lw_op Z Z Z (ow_move Z Z ?_))))))))))))))))
 replace h := bind_some h
 obtain ⟨x1, hx1, h⟩ := h
 refine lw_op Z Z Z (ow_call Z Z Tryd.call169 (w_impl_sweepSpans__impl_inFirstOnly hG hC.old h0 h1 hx1) fun v1 w1 hv1 => ?_)
 obtain ⟨hv1, hb1⟩ := hv1
 have hl1 := Le.no M hb1
 have hC1 := hC.no hb1
 replace h := bind_some h
 obtain ⟨x2, hx2, h⟩ := h
 refine lw_op Z Z Z (ow_call Z Z Tryd.call181 (w_impl_limitSpans (hG.mono hl1) hC1.old hv1 hx2) fun v2 w2 hv2 => ?_)
 obtain ⟨⟨v3, v4, rfl, hv3, hv4⟩, hb2⟩ := hv2
 have hC2 := hC1.no hb2
 obtain ⟨bb1, hbb1, rfl⟩ := vbool_ex hv4
 refine lw_op Z Z Z (ow_extract Z Z Z (lw_op Z Z Z (ow_extract Z Z Z (lw_op Z Z Z (ow_assign Z Z (lw_op Z Z Z (ow_assign Z Z (lw_nil (ew_then (cw_ret ?_))))))))))
 obtain rfl := sj h
 exact ew_ret (res2 Z (.tmp Z) (.tmp Z)) ⟨_, Z, ⟨_, _, Z, (VRep.mono hC2.back hv3), ((vbool_of hbb1))⟩, hC2.bx⟩

theorem w_impl_sides_empty {w : World} {M : Nat → Prop} (_hG : ARep (RArr 4 RShape) w M shapes ⟨0, 0, none⟩) (hO : ∀ b, M b → b < w.heap.size) {v0p : Value} {a_s : List (List Span)} (h0 : VRep (RArr 4 (RSlice RSpan)) w M a_s v0p) {r : Bool} (h : F.impl_sides_empty a_s = some r) :
  Calls Tryd.prog 92 [v0p].toArray w fun e w' => ∃ v, e = .returned v ∧ VRep RBool w' M r v ∧ BX No w w' := by
 have hC : Cx No w M w M := Cx.start hO (fun _ e => e.elim)
 clear _hG
 refine walk (N := 13) Tryd.func92 Z Tryd.ntmps92 Z (cw_seq (cw_region (lw_op Z Z Z (ow_box (R := (RArr 4 (RSlice RSpan))) Z Z h0 hC fun p1 w1 hp1 hb1 hl1 hC1 => lw_op Z Z Z (ow_assign Z Z (lw_nil (ew_then (cw_seq (cw_seq (cw_region (lw_op Z Z Z (ow_load (R := (RArr 4 (RSlice RSpan))) Z Z hp1 (Tryd.sizeOf131 _) (Tryd.isAgg131 _) fun v1 hv1 => lw_op Z Z Z (ow_move Z Z (lw_nil (ew_then ?_)))))))))))))))
 replace h := bind_some h
 obtain ⟨lr1, hlr1, h⟩ := h
 refine cw_for hlr1 (fun s a w' => ∃ (M' : Nat → Prop), Fits 13 [(5, v1), (6, (Zv s))] a ∧ Le w1 M w' M' ∧ Cx No w M w' M') ?_ ?_ ?_
 · exact fun a ha => ⟨M, ha.sub ⟨Z, Z, Zt⟩, Le.refl _ _, hC1⟩
 ·
  rintro k1 a w2 sr1 ⟨M1, hF1, hl2, hC2⟩ hb2 hR1
  refine cw_at (E := [(5, v1), (6, (Zv k1))]) hF1 (cw_seq (cw_region (lw_op Z Z Z (ow_lss Z Z Z fun bb1 hbb1 => lw_nil (ew_then (cw_seq ?_))))))
  replace hb2 := cond_some hb2
  rcases hb2 with ⟨hc1, hb2⟩ | ⟨hc1, hb2⟩
  ·
   obtain rfl := hbb1.trans hc1
   refine cw_true Z (cw_skip (ew_then (cw_seq (cw_block (cw_seq (cw_region ?_))))))
   replace hb2 := bind_some hb2
   obtain ⟨x1, hx1, hb2⟩ := hb2
   refine lw_op Z Z Z (ow_index (R := (RSlice RSpan)) Z Z Z (VRep.mono hl2 hv1) Tryd.underlying131 (Tryd.sizeOf121 _) (Tryd.isAgg121 _) hx1 fun v3 hv3 => lw_op Z Z Z (ow_assign Z Z (lw_nil (ew_then (cw_seq (cw_region (lw_op Z Z Z (ow_move Z Z (lw_op Z Z Z (ow_len Z Z hv3 Tryd.underlying121 Z (lw_op Z Z Z (ow_eqlI Z Z Z fun bb2 hbb2 => lw_nil (ew_then ?_)))))))))))))
   replace hb2 := cond_some hb2
   rcases hb2 with ⟨hc2, hb2⟩ | ⟨hc2, hb2⟩
   ·
    obtain rfl := hbb2.trans hc2
    refine cw_true Z (cw_seq (cw_region (lw_op Z Z Z (ow_assign Z Z (lw_nil (ew_then (cw_ret (ew_blockR (ew_thenR (ew_thenR (ew_blockR (ew_brkR (ew_thenR ?_)))))))))))))
    have e1 := hR1 _ (sj hb2).symm
    subst e1
    obtain rfl := sj h
    exact ew_ret (res1 Z (.tmp Z)) ⟨_, Z, ((vbool _)), hC2.bx⟩
   ·
    obtain rfl := hbb2.trans hc2
    exact cw_false Z (cw_skip (ew_blockN (ew_then (cw_region (lw_op Z Z Z (ow_add Z Z Z (lw_op Z Z Z (ow_move Z Z (lw_nil (ew_nxt (W (k1 + 1)) hb2 fun a ha => ⟨M1, (ha.sub ⟨Z, Z, Zt⟩), hl2, hC2⟩))))))))))
  ·
   obtain rfl := hbb1.trans hc1
   exact cw_false Z (cw_exit (ew_thenX (ew_thenX (ew_blockX (ew_brk k1 hb2 fun a ha => ⟨M1, (ha.sub ⟨Z, Z, Zt⟩), hl2, hC2⟩)))))
 ·
  rintro k2 a w3 hlr2 ⟨M2, hF2, hl3, hC3⟩
  subst hlr2
  refine ew_at (E := [(5, v1), (6, (Zv k2))]) hF2 (ew_then (cw_seq (cw_region (lw_op Z Z Z (ow_assign Z Z (lw_nil (ew_then (cw_ret ?_))))))))
  obtain rfl := sj h
  exact ew_ret (res1 Z (.tmp Z)) ⟨_, Z, ((vbool _)), hC3.bx⟩

theorem w_impl_sides_pieces_1 {w : World} {M : Nat → Prop} (hG : ARep (RArr 4 RShape) w M shapes ⟨0, 0, none⟩) (hO : ∀ b, M b → b < w.heap.size) {l : Nat} {J : List (List (List Span)) → (Nat → Prop) → (Nat → Prop) → World → Prop} {Jx : World → Prop} {K : Nat → Prop} (hY : Yd Tryd.prog l (RArr 4 (RSlice RSpan)) J Jx) (hJ : J [] K M w) {p1p : Addr} {a_s : List (List Span)} (hq1p : ARep (RArr 4 (RSlice RSpan)) w M a_s p1p) {p2p : Addr} {a_other : List (List Span)} (hq2p : ARep (RArr 4 (RSlice RSpan)) w M a_other p2p) {r : Bool × List (List (List Span))} (h : F.impl_sides_pieces_1 a_s a_other = some r) :
  Calls Tryd.prog 186 [(.func (.yield l) #[] #[]), (.pointer (some p1p)), (.pointer (some p2p))].toArray w fun e w' => ∃ v, e = .returned v ∧ v = .tuple #[] ∧ YEnd J Jx K w M r w' := by
 have hC : Cx K w M w M := Cx.start hO (hY.mem hJ)
 refine walk (N := 82) Tryd.func186 Z Tryd.ntmps186 Z (cw_seq (cw_seq (cw_region (lw_op Z Z Z (ow_load (R := (RArr 4 (RSlice RSpan))) Z Z hq1p (Tryd.sizeOf131 _) (Tryd.isAgg131 _) fun v1 hv1 => ?_)))))
 replace h := bind_some h
 obtain ⟨x1, hx1, h⟩ := h
 refine lw_op Z Z Z (ow_call Z Z Tryd.call92 (w_impl_sides_empty hG hC.old hv1 hx1) fun v2 w1 hv2 => ?_)
 obtain ⟨hv2, hb1⟩ := hv2
 have hl1 := Le.no M hb1
 have hC1 := hC.no hb1
 have hJ1 := hY.go hJ hb1 (fun _ e => e.elim) (fun _ h => h) hl1
 obtain rfl := vbool_eq hv2
 refine lw_nil (ew_then ?_)
 replace h := cond_some h
 rcases h with ⟨hc1, h⟩ | ⟨hc1, h⟩
 ·
  subst hc1
  refine cw_true Z (cw_ret (ew_thenR ?_))
  obtain rfl := sj h
  exact ew_ret (res0 Z) ⟨_, Z, Z, .inr ⟨Z, _, _, hJ1, hC1⟩⟩
 ·
  subst hc1
  refine cw_false Z (cw_skip (ew_then (cw_seq (cw_seq (cw_region (lw_op Z Z Z (ow_load (R := (RArr 4 (RSlice RSpan))) Z Z (ARep.mono hl1 hq1p) (Tryd.sizeOf131 _) (Tryd.isAgg131 _) fun v3 hv3 => lw_op Z Z Z (ow_load (R := (RArr 4 (RSlice RSpan))) Z Z (ARep.mono hl1 hq2p) (Tryd.sizeOf131 _) (Tryd.isAgg131 _) fun v4 hv4 => ?_))))))))
  replace h := bind_some h
  obtain ⟨x2, hx2, h⟩ := h
  refine lw_op Z Z Z (ow_call Z Z Tryd.call187 (w_impl_sides_touches (hG.mono hl1) hC1.old hv3 hv4 hx2) fun v5 w2 hv5 => ?_)
  obtain ⟨hv5, hb2⟩ := hv5
  have hl2 := Le.no M hb2
  have hC2 := hC1.no hb2
  have hJ2 := hY.go hJ1 hb2 (fun _ e => e.elim) (fun _ h => h) hl2
  obtain rfl := vbool_eq hv5
  refine lw_op Z Z Z (ow_not Z Z (lw_nil (ew_then ?_)))
  replace h := cond_some h
  rcases h with ⟨hc2, h⟩ | ⟨hc2, h⟩
  ·
   subst hc2
   refine cw_false Z (cw_skip (ew_then (cw_seq (cw_region (lw_op Z Z Z (ow_load (R := (RArr 4 (RSlice RSpan))) Z Z (ARep.mono (hl1.trans hl2) hq1p) (Tryd.sizeOf131 _) (Tryd.isAgg131 _) fun v6 hv6 => lw_op Z Z Z (ow_alloc Z (Tryd.zeroValue131 _) hC2 fun g1 w3 hg1 hg2 ho1 hb3 hl3 hC3 => ?_)))))))
   have hk1 := hY.free hJ2 hg1
   have hJ3 := hY.go hJ2 hb3 (fun _ e => e.elim) (fun _ h => .inr h) hl3
   have hm1 : (Add g1 M) g1 := .inl Z
   have ho2 : OwnA (RArr 4 (RSlice RSpan)) w3 (Add g1 M) g1 131 [([] : List Span), ([] : List Span), ([] : List Span), ([] : List Span)] := OwnA.of ho1 ⟨Z, ⟨_, _, Z, (vslice_nil (R := RSpan) (w := w3) (M := (Add g1 M))).cells, _, _, Z, (vslice_nil (R := RSpan) (w := w3) (M := (Add g1 M))).cells, _, _, Z, (vslice_nil (R := RSpan) (w := w3) (M := (Add g1 M))).cells, _, _, Z, (vslice_nil (R := RSpan) (w := w3) (M := (Add g1 M))).cells, Z⟩⟩
   obtain ⟨cs1, h1, h2⟩ := ho2.own
   refine lw_op0 Z Z (ow_storeA (X := K) (R := (RArr 4 (RSlice RSpan))) Z Z Z Z h1 h2 (Tryd.sizeOf131 _) (VRep.mono hl3 hv6) hm1 (.inl hg2) hC3 fun w4 ho3 hb4 hl4 hC4 => ?_)
   have hJ4 := hY.go hJ3 hb4 (fun b e h => hk1 ((show b = g1 from e) ▸ h)) (fun _ h => h) hl4
   refine lw_op Z Z Z (ow_assign Z Z (lw_nil (ew_then (cw_seq (cw_region (lw_op Z Z Z (ow_move Z Z (lw_nil (ew_then ?_)))))))))
   replace h := bind_some h
   obtain ⟨lr1, hlr1, h⟩ := h
   refine cw_for hlr1 (fun s a w' => ∃ (M' : Nat → Prop) (K' : Nat → Prop), Fits 82 [(0, (.func (.yield l) #[] #[])), (1, (.pointer (some p1p))), (2, (.pointer (some p2p))), (4, (Zw g1 0)), (5, (.bool s.1)), (22, (Zv s.2.1))] a ∧ Le w4 (Add g1 M) w' M' ∧ Cx K w M w' M' ∧ OwnA (RArr 4 (RSlice RSpan)) w' M' g1 131 s.2.2.1 ∧ M' g1 ∧ J s.2.2.2 K' M' w' ∧ (∀ b, K' b → w.heap.size ≤ b ∨ K b) ∧ ¬ K' g1) ?_ ?_ ?_
   · exact fun a ha => ⟨(Add g1 M), K, ha.sub ⟨Z, Z, Z, Z, Z, Z, Zt⟩, Le.refl _ _, hC4, ho3, hm1, hJ4, (fun _ h => .inr h), hk1⟩
   ·
    rintro ⟨y1, k1, y2, y3⟩ a w5 sr1 ⟨M1, K1, hF1, hl5, hC5, ho4, hm2, hJ5, hge1, hk2⟩ hb5 hR1
    refine cw_at (E := [(0, (.func (.yield l) #[] #[])), (1, (.pointer (some p1p))), (2, (.pointer (some p2p))), (4, (Zw g1 0)), (5, (.bool y1)), (22, (Zv k1))]) hF1 (cw_seq (cw_region (lw_op Z Z Z (ow_lss Z Z Z fun bb1 hbb1 => lw_nil (ew_then (cw_seq ?_))))))
    replace hb5 := cond_some hb5
    rcases hb5 with ⟨hc3, hb5⟩ | ⟨hc3, hb5⟩
    ·
     obtain rfl := hbb1.trans hc3
     refine cw_true Z (cw_skip (ew_then (cw_seq (cw_block (cw_seq (cw_region (lw_op Z Z Z (ow_move Z Z (lw_op Z Z Z (ow_assign Z Z (lw_nil (ew_then (cw_seq ?_)))))))))))))
     replace hb5 := bind_some hb5
     obtain ⟨x3, hx3, hb5⟩ := hb5
     replace hb5 := bind_some hb5
     obtain ⟨x4, hx4, hb5⟩ := hb5
     replace hb5 := bind_some hb5
     obtain ⟨x5, hx5, hb5⟩ := hb5
     replace hb5 := bind_some hb5
     obtain ⟨x6, hx6, hb5⟩ := hb5
     have lz1 := ((((hl1.trans hl2).trans hl3).trans hl4).trans hl5)
     refine cw_sub (E' := [(0, (.func (.yield l) #[] #[])), (1, (.pointer (some p1p))), (2, (.pointer (some p2p))), (4, (Zw g1 0)), (5, (.bool y1)), (6, (Zv k1)), (22, (Zv k1))]) ⟨Z, Z, Z, Z, Z, Z, Z, Zt⟩ (cw_drawQ 13 [PEq (Zv k1), PA (RSlice RSpan) M1 x3, PV (RSlice RSpan) M1 x3, PEq (Zv k1), PA (RSlice RSpan) M1 x4, PV (RSlice RSpan) M1 x4, PEq (Zv k1), PEq (Zv x5), PT2 (PV (RSlice RSpan) M1 x6.1) (PEq (.bool x6.2)), PT2 (PV (RSlice RSpan) M1 x6.1) (PEq (.bool x6.2)), PV (RSlice RSpan) M1 x6.1, PEq (.bool x6.2), PV (RSlice RSpan) M1 x6.1] (by kernel_rfl) Z (by kernel_rfl) ⟨Zq, PA.mono _ _ _, PV.mono _ _ _, Zq, PA.mono _ _ _, PV.mono _ _ _, Zq, Zq, (PT2.mono (PV.mono _ _ _) (Zq)), (PT2.mono (PV.mono _ _ _) (Zq)), PV.mono _ _ _, Zq, PV.mono _ _ _, Zt⟩ ⟨?_, ?_, ?_, ?_, ?_, ?_, ?_, ?_, ?_, ?_, ?_, ?_, ?_, Zt⟩ ?_)
     · exact fun w8 D hS1 hd1 => dg_sub (E' := [(6, (Zv k1))]) ⟨Z, Zt⟩ (dg_plain Z (ow_move Z Z Zb))
     ·
      intro w9 D hS2 hd2
      have hl9 := Le.no M1 hS2
      exact dg_sub (E' := [(26, (Zv k1)), (1, (.pointer (some p1p)))]) ⟨dpE hd2 0 Z Z, Z, Zt⟩ (dg_plain Z (ow_indexArr (R := (RSlice RSpan)) Z Z Z (ARep.mono (lz1.trans hl9) hq1p) Tryd.underlying131 (Tryd.sizeOf121 _) hx3 fun p3 hp3 => ⟨BX.refl _ _, ⟨_, Z, hp3⟩⟩))
     ·
      intro w10 D hS3 hd3
      have d2 : PA (RSlice RSpan) M1 x3 (D 1) w10 := dpA hd3 1 Z
      obtain ⟨p4, e1, ha1⟩ := d2
      exact dg_sub (E' := [(27, (.pointer (some p4)))]) ⟨congrArg some e1, Zt⟩ (dg_plain Z (ow_load (R := (RSlice RSpan)) Z Z ha1 (Tryd.sizeOf121 _) (Tryd.isAgg121 _) fun v17 hv17 => ⟨BX.refl _ _, hv17⟩))
     · exact fun w11 D hS4 hd4 => dg_sub (E' := [(6, (Zv k1))]) ⟨Z, Zt⟩ (dg_plain Z (ow_move Z Z Zb))
     ·
      intro w12 D hS5 hd5
      have hl12 := Le.no M1 hS5
      exact dg_sub (E' := [(29, (Zv k1)), (2, (.pointer (some p2p)))]) ⟨dpE hd5 3 Z Z, Z, Zt⟩ (dg_plain Z (ow_indexArr (R := (RSlice RSpan)) Z Z Z (ARep.mono (lz1.trans hl12) hq2p) Tryd.underlying131 (Tryd.sizeOf121 _) hx4 fun p5 hp5 => ⟨BX.refl _ _, ⟨_, Z, hp5⟩⟩))
     ·
      intro w13 D hS6 hd6
      have d4 : PA (RSlice RSpan) M1 x4 (D 4) w13 := dpA hd6 4 Z
      obtain ⟨p6, e2, ha2⟩ := d4
      exact dg_sub (E' := [(30, (.pointer (some p6)))]) ⟨congrArg some e2, Zt⟩ (dg_plain Z (ow_load (R := (RSlice RSpan)) Z Z ha2 (Tryd.sizeOf121 _) (Tryd.isAgg121 _) fun v18 hv18 => ⟨BX.refl _ _, hv18⟩))
     · exact fun w14 D hS7 hd7 => dg_sub (E' := [(6, (Zv k1))]) ⟨Z, Zt⟩ (dg_plain Z (ow_move Z Z Zb))
     ·
      intro w15 D hS8 hd8
      have hl15 := Le.no M1 hS8
      have hC15 := hC5.no hS8
      refine dg_sub (E' := [(32, (Zv k1))]) ⟨dpE hd8 6 Z Z, Zt⟩ (dg_plain Z (ow_call Z Z Tryd.call142 (w_impl_FieldTop (hG.mono (lz1.trans hl15)) hC15.old hx5) fun v19 w16 hv19 => ?_))
      obtain ⟨hv19, hb8⟩ := hv19
      obtain rfl := vint_eq hv19
      exact ⟨hb8, Z⟩
     ·
      intro w17 D hS9 hd9
      have hl17 := Le.no M1 hS9
      have hC17 := hC5.no hS9
      have d6 : PV (RSlice RSpan) M1 x3 (D 2) w17 := dpA hd9 2 Z
      have d7 : PV (RSlice RSpan) M1 x4 (D 5) w17 := dpA hd9 5 Z
      generalize hq1 : (D 2) = v20 at d6
      generalize hq2 : (D 5) = v21 at d7
      refine dg_sub (E' := [(28, v20), (31, v21), (33, (Zv x5))]) ⟨congrArg some hq1, congrArg some hq2, dpE hd9 7 Z Z, Zt⟩ (dg_plain Z (ow_call Z Z Tryd.call188 (w_impl_lessSpans (hG.mono (lz1.trans hl17)) hC17.old d6 d7 hx6) fun v22 w18 hv22 => ?_))
      obtain ⟨⟨v23, v24, rfl, hv23, hv24⟩, hb9⟩ := hv22
      obtain ⟨bb3, hbb3, rfl⟩ := vbool_ex hv24
      exact ⟨hb9, ⟨_, _, Z, hv23, (congrArg Value.bool hbb3)⟩⟩
     ·
      intro w19 D hS10 hd10
      have d10 : PT2 (PV (RSlice RSpan) M1 x6.1) (PEq (.bool x6.2)) (D 8) w19 := dpA hd10 8 Z
      obtain ⟨v25, v26, e3, hd11, hd12⟩ := d10
      obtain ⟨bb4, hq3, rfl⟩ : ∃ b, b = x6.2 ∧ v26 = .bool b := ⟨_, rfl, hd12⟩
      exact dg_sub (E' := [(34, (.tuple #[v25, (.bool bb4)]))]) ⟨congrArg some e3, Zt⟩ (dg_plain Z (ow_move Z Z ⟨BX.refl _ _, ⟨_, _, Z, hd11, (congrArg Value.bool hq3)⟩⟩))
     ·
      intro w20 D hS11 hd13
      have d11 : PT2 (PV (RSlice RSpan) M1 x6.1) (PEq (.bool x6.2)) (D 9) w20 := dpA hd13 9 Z
      obtain ⟨v27, v28, e4, hd14, hd15⟩ := d11
      obtain ⟨bb5, hq4, rfl⟩ : ∃ b, b = x6.2 ∧ v28 = .bool b := ⟨_, rfl, hd15⟩
      exact dg_sub (E' := [(25, (.tuple #[v27, (.bool bb5)]))]) ⟨congrArg some e4, Zt⟩ (dg_plain Z (ow_extract Z Z Z ⟨BX.refl _ _, hd14⟩))
     ·
      intro w21 D hS12 hd16
      have d12 : PT2 (PV (RSlice RSpan) M1 x6.1) (PEq (.bool x6.2)) (D 9) w21 := dpA hd16 9 Z
      obtain ⟨v29, v30, e5, hd17, hd18⟩ := d12
      obtain ⟨bb6, hq5, rfl⟩ : ∃ b, b = x6.2 ∧ v30 = .bool b := ⟨_, rfl, hd18⟩
      exact dg_sub (E' := [(25, (.tuple #[v29, (.bool bb6)]))]) ⟨congrArg some e5, Zt⟩ (dg_plain Z (ow_extract Z Z Z ⟨BX.refl _ _, (congrArg Value.bool hq5)⟩))
     ·
      intro w22 D hS13 hd19
      have d13 : PV (RSlice RSpan) M1 x6.1 (D 10) w22 := dpA hd19 10 Z
      generalize hq6 : (D 10) = v31 at d13
      exact dg_sub (E' := [(35, v31)]) ⟨congrArg some hq6, Zt⟩ (dg_plain Z (ow_assign Z Z ⟨BX.refl _ _, d13⟩))
     ·
      intro w23 D hS14 hd20
      have d37 : PEq (.bool x6.2) (D 11) w23 := dpA hd20 11 Z
      have d38 : PV (RSlice RSpan) M1 x6.1 (D 12) w23 := dpA hd20 12 Z
      have hl23 := Le.no M1 hS14
      have hC23 := hC5.no hS14
      have hJ23 := hY.go hJ5 hS14 (fun _ e => e.elim) (fun _ h => h) hl23
      have ho22 := ho4.no hS14 hl23
      obtain ⟨bb7, hq7, hq8⟩ : ∃ b, b = x6.2 ∧ (D 11) = .bool b := ⟨_, rfl, d37⟩
      generalize hq9 : (D 12) = v32 at d38
      refine lw_sub (E' := [(36, (.bool bb7)), (7, v32), (0, (.func (.yield l) #[] #[])), (1, (.pointer (some p1p))), (2, (.pointer (some p2p))), (4, (Zw g1 0)), (5, (.bool y1)), (6, (Zv k1)), (22, (Zv k1))]) ⟨congrArg some hq8, congrArg some hq9, Z, Z, Z, Z, Z, Z, Z, Zt⟩ (lw_op Z Z Z (ow_assign Z Z (lw_nil (ew_then (cw_seq (cw_seq (cw_region (lw_op Z Z Z (ow_move Z Z (lw_op Z Z Z (ow_not Z Z (lw_op Z Z Z (ow_move Z Z ?_)))))))))))))
      replace hb5 := cond_some hb5
      rcases hb5 with ⟨hc4, hb5⟩ | ⟨hc4, hb5⟩
      ·
       obtain rfl := hq7.trans hc4
       refine lw_on Z Z Z Z Z Z (ow_move Z Z (lw_on Z Z Z Z Z Z (ow_len Z Z d38 Tryd.underlying121 Z (lw_on Z Z Z Z Z Z (ow_gtr Z Z Z fun bb8 hbb8 => lw_on Z Z Z Z Z Z (ow_move Z Z ?_))))))
       replace hb5 := cond_some hb5
       rcases hb5 with ⟨hc5, hb5⟩ | ⟨hc5, hb5⟩
       ·
        obtain rfl := hbb8.trans hc5
        refine lw_on Z Z Z Z Z Z (ow_move Z Z (lw_on Z Z Z Z Z Z (ow_not Z Z (lw_on Z Z Z Z Z Z (ow_pickT Z Z Z (lw_op Z Z Z (ow_pickF Z Z Z (lw_nil (ew_then ?_)))))))))
        replace hb5 := cond_some hb5
        rcases hb5 with ⟨hc6, hb5⟩ | ⟨hc6, hb5⟩
        ·
         subst hc6
         refine cw_false Z (cw_skip (ew_then (cw_seq (cw_seq (cw_region (lw_op Z Z Z (ow_move Z Z (lw_op Z Z Z (ow_len Z Z d38 Tryd.underlying121 Z (lw_op Z Z Z (ow_gtr Z Z Z fun bb9 hbb9 => ?_)))))))))))
         obtain rfl := hbb9.trans hc5
         refine lw_nil (ew_then (cw_true Z (cw_seq (cw_region (lw_op Z Z Z (ow_loadA (R := (RArr 4 (RSlice RSpan))) Z Z Z ho22 (Tryd.sizeOf131 _) (Tryd.isAgg131 _) fun v33 hv33 => lw_op Z Z Z (ow_alloc Z (Tryd.zeroValue131 _) hC23 fun g2 w24 hg3 hg4 ho23 hb10 hl24 hC24 => ?_)))))))
         have hk3 := hY.free hJ23 hg3
         have hJ24 := hY.go hJ23 hb10 (fun _ e => e.elim) (fun _ h => .inr h) hl24
         have hn1 := Nat.ne_of_lt (Nat.lt_of_lt_of_le ho22.lt hg3)
         have ho24 := ho22.no hb10 hl24
         have hm3 : (Add g2 M1) g1 := .inr hm2
         have hm4 : (Add g2 M1) g2 := .inl Z
         have ho25 : OwnA (RArr 4 (RSlice RSpan)) w24 (Add g2 M1) g2 131 [([] : List Span), ([] : List Span), ([] : List Span), ([] : List Span)] := OwnA.of ho23 ⟨Z, ⟨_, _, Z, (vslice_nil (R := RSpan) (w := w24) (M := (Add g2 M1))).cells, _, _, Z, (vslice_nil (R := RSpan) (w := w24) (M := (Add g2 M1))).cells, _, _, Z, (vslice_nil (R := RSpan) (w := w24) (M := (Add g2 M1))).cells, _, _, Z, (vslice_nil (R := RSpan) (w := w24) (M := (Add g2 M1))).cells, Z⟩⟩
         obtain ⟨cs2, h3, h4⟩ := ho25.own
         refine lw_op0 Z Z (ow_storeA (X := K) (R := (RArr 4 (RSlice RSpan))) Z Z Z Z h3 h4 (Tryd.sizeOf131 _) (VRep.mono hl24 hv33) hm4 (.inl hg4) hC24 fun w25 ho26 hb11 hl25 hC25 => ?_)
         have hJ25 := hY.go hJ24 hb11 (fun b e h => hk3 ((show b = g2 from e) ▸ h)) (fun _ h => h) hl25
         have ho27 := ho24.go hb11 (fun e => hn1 e) hl25
         refine lw_nil (ew_then (cw_seq (cw_region (lw_op Z Z Z (ow_move Z Z (lw_op Z Z Z (ow_move Z Z ?_)))))))
         replace hb5 := bind_some hb5
         obtain ⟨x7, hx7, hb5⟩ := hb5
         refine lw_op Z Z Z (ow_indexA (R := (RSlice RSpan)) Z Z Z Z ho26 Tryd.underlying131 (Tryd.sizeOf121 _) hx7 (lw_op0 Z Z (ow_storeElA (X := K) (R := (RSlice RSpan)) Z Z Z Z ho26 hx7 (Tryd.sizeOf121 _) (VRep.mono (hl24.trans hl25) d38) hm4 (.inl hg4) hC25 fun w26 ho28 hb12 hl26 hC26 => ?_)))
         have hJ26 := hY.go hJ25 hb12 (fun b e h => hk3 ((show b = g2 from e) ▸ h)) (fun _ h => h) hl26
         have ho29 := ho27.go hb12 (fun e => hn1 e) hl26
         refine lw_nil (ew_then (cw_seq (cw_regionY 1 (lg_op Z Z Z Z (ow_move Z Z (lg_op Z Z Z Z (ow_loadA (R := (RArr 4 (RSlice RSpan))) Z Z Z ho28 (Tryd.sizeOf131 _) (Tryd.isAgg131 _) fun v34 hv34 => ?_)))))))
         replace hb5 := bind_some hb5
         obtain ⟨z1, hz1, hb5⟩ := hb5
         refine lg_yes hY Z Z Z Z Z Z hJ26 hv34 hz1 hC26 hge1 fun w27 K2 M2 hJ27 hb13 hl27 hC27 hM1 hk4 hge2 => ?_
         have hk5 := hk4 _ ho29.lt hk2
         have ho30 := ho29.go hb13 hk2 hl27
         have hm5 := hM1 _ hm3
         refine lg_op Z Z Z Z (ow_not Z Z (lg_end (ew_then (cw_false Z (cw_skip (ew_then (cw_seq ?_)))))))
         replace hb5 := bind_some hb5
         obtain ⟨x8, hx8, hb5⟩ := hb5
         have lz2 := (((((lz1.trans hl23).trans hl24).trans hl25).trans hl26).trans hl27)
         refine cw_sub (E' := [(0, (.func (.yield l) #[] #[])), (1, (.pointer (some p1p))), (2, (.pointer (some p2p))), (4, (Zw g1 0)), (5, (.bool true)), (6, (Zv k1)), (22, (Zv k1))]) ⟨Z, Z, Z, Z, Z, Z, Z, Zt⟩ (cw_drawQ 13 [PEq (Zv k1), PA (RSlice RSpan) M2 x3, PV (RSlice RSpan) M2 x3, PEq (Zv k1), PA (RSlice RSpan) M2 x4, PV (RSlice RSpan) M2 x4, PEq (Zv k1), PEq (Zv x5), PT2 (PV (RSlice RSpan) M2 x8.1) (PEq (.bool x8.2)), PT2 (PV (RSlice RSpan) M2 x8.1) (PEq (.bool x8.2)), PV (RSlice RSpan) M2 x8.1, PEq (.bool x8.2), PV (RSlice RSpan) M2 x8.1] (by kernel_rfl) Z (by kernel_rfl) ⟨Zq, PA.mono _ _ _, PV.mono _ _ _, Zq, PA.mono _ _ _, PV.mono _ _ _, Zq, Zq, (PT2.mono (PV.mono _ _ _) (Zq)), (PT2.mono (PV.mono _ _ _) (Zq)), PV.mono _ _ _, Zq, PV.mono _ _ _, Zt⟩ ⟨?_, ?_, ?_, ?_, ?_, ?_, ?_, ?_, ?_, ?_, ?_, ?_, ?_, Zt⟩ ?_)
         · exact fun w30 D hS15 hd21 => dg_sub (E' := [(6, (Zv k1))]) ⟨Z, Zt⟩ (dg_plain Z (ow_move Z Z Zb))
         ·
          intro w31 D hS16 hd22
          have hl31 := Le.no M2 hS16
          exact dg_sub (E' := [(63, (Zv k1)), (1, (.pointer (some p1p)))]) ⟨dpE hd22 0 Z Z, Z, Zt⟩ (dg_plain Z (ow_indexArr (R := (RSlice RSpan)) Z Z Z (ARep.mono (lz2.trans hl31) hq1p) Tryd.underlying131 (Tryd.sizeOf121 _) hx3 fun p9 hp9 => ⟨BX.refl _ _, ⟨_, Z, hp9⟩⟩))
         ·
          intro w32 D hS17 hd23
          have d40 : PA (RSlice RSpan) M2 x3 (D 1) w32 := dpA hd23 1 Z
          obtain ⟨p10, e6, ha3⟩ := d40
          exact dg_sub (E' := [(64, (.pointer (some p10)))]) ⟨congrArg some e6, Zt⟩ (dg_plain Z (ow_load (R := (RSlice RSpan)) Z Z ha3 (Tryd.sizeOf121 _) (Tryd.isAgg121 _) fun v41 hv41 => ⟨BX.refl _ _, hv41⟩))
         · exact fun w33 D hS18 hd24 => dg_sub (E' := [(6, (Zv k1))]) ⟨Z, Zt⟩ (dg_plain Z (ow_move Z Z Zb))
         ·
          intro w34 D hS19 hd25
          have hl34 := Le.no M2 hS19
          exact dg_sub (E' := [(66, (Zv k1)), (2, (.pointer (some p2p)))]) ⟨dpE hd25 3 Z Z, Z, Zt⟩ (dg_plain Z (ow_indexArr (R := (RSlice RSpan)) Z Z Z (ARep.mono (lz2.trans hl34) hq2p) Tryd.underlying131 (Tryd.sizeOf121 _) hx4 fun p11 hp11 => ⟨BX.refl _ _, ⟨_, Z, hp11⟩⟩))
         ·
          intro w35 D hS20 hd26
          have d42 : PA (RSlice RSpan) M2 x4 (D 4) w35 := dpA hd26 4 Z
          obtain ⟨p12, e7, ha4⟩ := d42
          exact dg_sub (E' := [(67, (.pointer (some p12)))]) ⟨congrArg some e7, Zt⟩ (dg_plain Z (ow_load (R := (RSlice RSpan)) Z Z ha4 (Tryd.sizeOf121 _) (Tryd.isAgg121 _) fun v42 hv42 => ⟨BX.refl _ _, hv42⟩))
         · exact fun w36 D hS21 hd27 => dg_sub (E' := [(6, (Zv k1))]) ⟨Z, Zt⟩ (dg_plain Z (ow_move Z Z Zb))
         ·
          intro w37 D hS22 hd28
          have hl37 := Le.no M2 hS22
          have hC37 := hC27.no hS22
          refine dg_sub (E' := [(69, (Zv k1))]) ⟨dpE hd28 6 Z Z, Zt⟩ (dg_plain Z (ow_call Z Z Tryd.call142 (w_impl_FieldTop (hG.mono (lz2.trans hl37)) hC37.old hx5) fun v43 w38 hv43 => ?_))
          obtain ⟨hv43, hb16⟩ := hv43
          obtain rfl := vint_eq hv43
          exact ⟨hb16, Z⟩
         ·
          intro w39 D hS23 hd29
          have hl39 := Le.no M2 hS23
          have hC39 := hC27.no hS23
          have d44 : PV (RSlice RSpan) M2 x3 (D 2) w39 := dpA hd29 2 Z
          have d45 : PV (RSlice RSpan) M2 x4 (D 5) w39 := dpA hd29 5 Z
          generalize hq10 : (D 2) = v44 at d44
          generalize hq11 : (D 5) = v45 at d45
          refine dg_sub (E' := [(65, v44), (68, v45), (70, (Zv x5))]) ⟨congrArg some hq10, congrArg some hq11, dpE hd29 7 Z Z, Zt⟩ (dg_plain Z (ow_call Z Z Tryd.call155 (w_impl_meetSpans (hG.mono (lz2.trans hl39)) hC39.old d44 d45 hx8) fun v46 w40 hv46 => ?_))
          obtain ⟨⟨v47, v48, rfl, hv47, hv48⟩, hb17⟩ := hv46
          obtain ⟨bb11, hbb11, rfl⟩ := vbool_ex hv48
          exact ⟨hb17, ⟨_, _, Z, hv47, (congrArg Value.bool hbb11)⟩⟩
         ·
          intro w41 D hS24 hd30
          have d48 : PT2 (PV (RSlice RSpan) M2 x8.1) (PEq (.bool x8.2)) (D 8) w41 := dpA hd30 8 Z
          obtain ⟨v49, v50, e8, hd31, hd32⟩ := d48
          obtain ⟨bb12, hq12, rfl⟩ : ∃ b, b = x8.2 ∧ v50 = .bool b := ⟨_, rfl, hd32⟩
          exact dg_sub (E' := [(71, (.tuple #[v49, (.bool bb12)]))]) ⟨congrArg some e8, Zt⟩ (dg_plain Z (ow_move Z Z ⟨BX.refl _ _, ⟨_, _, Z, hd31, (congrArg Value.bool hq12)⟩⟩))
         ·
          intro w42 D hS25 hd33
          have d49 : PT2 (PV (RSlice RSpan) M2 x8.1) (PEq (.bool x8.2)) (D 9) w42 := dpA hd33 9 Z
          obtain ⟨v51, v52, e9, hd34, hd35⟩ := d49
          obtain ⟨bb13, hq13, rfl⟩ : ∃ b, b = x8.2 ∧ v52 = .bool b := ⟨_, rfl, hd35⟩
          exact dg_sub (E' := [(62, (.tuple #[v51, (.bool bb13)]))]) ⟨congrArg some e9, Zt⟩ (dg_plain Z (ow_extract Z Z Z ⟨BX.refl _ _, hd34⟩))
         ·
          intro w43 D hS26 hd36
          have d50 : PT2 (PV (RSlice RSpan) M2 x8.1) (PEq (.bool x8.2)) (D 9) w43 := dpA hd36 9 Z
          obtain ⟨v53, v54, e10, hd37, hd38⟩ := d50
          obtain ⟨bb14, hq14, rfl⟩ : ∃ b, b = x8.2 ∧ v54 = .bool b := ⟨_, rfl, hd38⟩
          exact dg_sub (E' := [(62, (.tuple #[v53, (.bool bb14)]))]) ⟨congrArg some e10, Zt⟩ (dg_plain Z (ow_extract Z Z Z ⟨BX.refl _ _, (congrArg Value.bool hq14)⟩))
         ·
          intro w44 D hS27 hd39
          have d51 : PV (RSlice RSpan) M2 x8.1 (D 10) w44 := dpA hd39 10 Z
          generalize hq15 : (D 10) = v55 at d51
          exact dg_sub (E' := [(72, v55)]) ⟨congrArg some hq15, Zt⟩ (dg_plain Z (ow_assign Z Z ⟨BX.refl _ _, d51⟩))
         ·
          intro w45 D hS28 hd40
          have d75 : PEq (.bool x8.2) (D 11) w45 := dpA hd40 11 Z
          have d76 : PV (RSlice RSpan) M2 x8.1 (D 12) w45 := dpA hd40 12 Z
          have hl45 := Le.no M2 hS28
          have hC45 := hC27.no hS28
          have hJ45 := hY.go hJ27 hS28 (fun _ e => e.elim) (fun _ h => h) hl45
          have ho66 := ho30.no hS28 hl45
          obtain ⟨bb15, hq16, hq17⟩ : ∃ b, b = x8.2 ∧ (D 11) = .bool b := ⟨_, rfl, d75⟩
          generalize hq18 : (D 12) = v56 at d76
          refine lw_sub (E' := [(73, (.bool bb15)), (10, v56), (0, (.func (.yield l) #[] #[])), (1, (.pointer (some p1p))), (2, (.pointer (some p2p))), (4, (Zw g1 0)), (5, (.bool true)), (6, (Zv k1)), (22, (Zv k1))]) ⟨congrArg some hq17, congrArg some hq18, Z, Z, Z, Z, Z, Z, Z, Zt⟩ (lw_op Z Z Z (ow_assign Z Z (lw_nil (ew_then (cw_seq (cw_region (lw_op Z Z Z (ow_move Z Z (lw_op Z Z Z (ow_move Z Z (lw_op Z Z Z (ow_indexA (R := (RSlice RSpan)) Z Z Z Z ho66 Tryd.underlying131 (Tryd.sizeOf121 _) hx7 (lw_op0 Z Z (ow_storeElA (X := K) (R := (RSlice RSpan)) Z Z Z Z ho66 hx7 (Tryd.sizeOf121 _) d76 hm5 (.inl hg2) hC45 fun w46 ho68 hb18 hl46 hC46 => ?_))))))))))))))
          have hJ46 := hY.go hJ45 hb18 (fun b e h => hk5 ((show b = g1 from e) ▸ h)) (fun _ h => h) hl46
          refine lw_nil (ew_then (cw_region (lw_op Z Z Z (ow_move Z Z (lw_op Z Z Z (ow_move Z Z (lw_on Z Z Z Z Z Z (ow_move Z Z (lw_op Z Z Z (ow_pickT Z Z Z (lw_op Z Z Z (ow_assign Z Z (lw_nil (ew_blockN (ew_then (cw_region (lw_op Z Z Z (ow_add Z Z Z (lw_op Z Z Z (ow_move Z Z (lw_nil ?_)))))))))))))))))))))
          have lz4 := (((((((hl5.trans hl23).trans hl24).trans hl25).trans hl26).trans hl27).trans hl45).trans hl46)
          refine ew_nxt (x8.2, (W (k1 + 1)), (List.set y2 (k1 : Int).toNat x8.1), z1) hb5 fun a ha => ⟨M2, K2, ?_, lz4, hC46, ho68, hm5, hJ46, hge2, hk5⟩
          rw [hq16] at ha
          exact ha.sub ⟨Z, Z, Z, Z, Z, Z, Zt⟩
        ·
         subst hc6
         refine cw_true Z (cw_seq (cw_regionY 1 (lg_op Z Z Z Z (ow_move Z Z (lg_op Z Z Z Z (ow_build (v := .agg #[(.slice none 0 0), (.slice none 0 0), (.slice none 0 0), (.slice none 0 0)]) Z Z (by kernel_rfl) ?_))))))
         have hw1 : VRep (RArr 4 (RSlice RSpan)) w23 M1 [([] : List Span), ([] : List Span), ([] : List Span), ([] : List Span)] (.agg #[(.slice none 0 0), (.slice none 0 0), (.slice none 0 0), (.slice none 0 0)]) := ⟨_, ⟨Z, ⟨_, _, Z, (vslice_nil (R := RSpan) (w := w23) (M := M1)).cells, _, _, Z, (vslice_nil (R := RSpan) (w := w23) (M := M1)).cells, _, _, Z, (vslice_nil (R := RSpan) (w := w23) (M := M1)).cells, _, _, Z, (vslice_nil (R := RSpan) (w := w23) (M := M1)).cells, Z⟩⟩, Z⟩
         refine lg_no hY Z Z Z Z Z Z hJ23 hw1 hC23 hge1 fun w47 hx1 hx1c => lg_end (ew_then (cw_ret (ew_thenR (ew_blockR (ew_thenR (ew_thenR (ew_blockR (ew_brkR ?_))))))))
         have e11 := hR1 _ (sj hb5).symm
         subst e11
         obtain rfl := sj h
         exact ew_ret (res0 Z) ⟨_, Z, Z, .inl ⟨Z, hx1, hx1c.bx⟩⟩
       ·
        obtain rfl := hbb8.trans hc5
        refine lw_off Z Z Z Z Z Z (lw_off Z Z Z Z Z Z (lw_on Z Z Z Z Z Z (ow_pickF Z Z Z (lw_op Z Z Z (ow_pickF Z Z Z (lw_nil (ew_then (cw_false Z (cw_skip (ew_then (cw_seq (cw_seq (cw_region (lw_op Z Z Z (ow_move Z Z (lw_op Z Z Z (ow_len Z Z d38 Tryd.underlying121 Z (lw_op Z Z Z (ow_gtr Z Z Z fun bb16 hbb16 => ?_)))))))))))))))))))
        obtain rfl := hbb16.trans hc5
        refine lw_nil (ew_then (cw_false Z (cw_skip (ew_then (cw_seq ?_)))))
        replace hb5 := bind_some hb5
        obtain ⟨x9, hx9, hb5⟩ := hb5
        have lz5 := (lz1.trans hl23)
        refine cw_sub (E' := [(0, (.func (.yield l) #[] #[])), (1, (.pointer (some p1p))), (2, (.pointer (some p2p))), (4, (Zw g1 0)), (5, (.bool y1)), (6, (Zv k1)), (22, (Zv k1))]) ⟨Z, Z, Z, Z, Z, Z, Z, Zt⟩ (cw_drawQ 13 [PEq (Zv k1), PA (RSlice RSpan) M1 x3, PV (RSlice RSpan) M1 x3, PEq (Zv k1), PA (RSlice RSpan) M1 x4, PV (RSlice RSpan) M1 x4, PEq (Zv k1), PEq (Zv x5), PT2 (PV (RSlice RSpan) M1 x9.1) (PEq (.bool x9.2)), PT2 (PV (RSlice RSpan) M1 x9.1) (PEq (.bool x9.2)), PV (RSlice RSpan) M1 x9.1, PEq (.bool x9.2), PV (RSlice RSpan) M1 x9.1] (by kernel_rfl) Z (by kernel_rfl) ⟨Zq, PA.mono _ _ _, PV.mono _ _ _, Zq, PA.mono _ _ _, PV.mono _ _ _, Zq, Zq, (PT2.mono (PV.mono _ _ _) (Zq)), (PT2.mono (PV.mono _ _ _) (Zq)), PV.mono _ _ _, Zq, PV.mono _ _ _, Zt⟩ ⟨?_, ?_, ?_, ?_, ?_, ?_, ?_, ?_, ?_, ?_, ?_, ?_, ?_, Zt⟩ ?_)
        · exact fun w50 D hS29 hd41 => dg_sub (E' := [(6, (Zv k1))]) ⟨Z, Zt⟩ (dg_plain Z (ow_move Z Z Zb))
        ·
         intro w51 D hS30 hd42
         have hl50 := Le.no M1 hS30
         exact dg_sub (E' := [(63, (Zv k1)), (1, (.pointer (some p1p)))]) ⟨dpE hd42 0 Z Z, Z, Zt⟩ (dg_plain Z (ow_indexArr (R := (RSlice RSpan)) Z Z Z (ARep.mono (lz5.trans hl50) hq1p) Tryd.underlying131 (Tryd.sizeOf121 _) hx3 fun p15 hp15 => ⟨BX.refl _ _, ⟨_, Z, hp15⟩⟩))
        ·
         intro w52 D hS31 hd43
         have d78 : PA (RSlice RSpan) M1 x3 (D 1) w52 := dpA hd43 1 Z
         obtain ⟨p16, e12, ha5⟩ := d78
         exact dg_sub (E' := [(64, (.pointer (some p16)))]) ⟨congrArg some e12, Zt⟩ (dg_plain Z (ow_load (R := (RSlice RSpan)) Z Z ha5 (Tryd.sizeOf121 _) (Tryd.isAgg121 _) fun v63 hv63 => ⟨BX.refl _ _, hv63⟩))
        · exact fun w53 D hS32 hd44 => dg_sub (E' := [(6, (Zv k1))]) ⟨Z, Zt⟩ (dg_plain Z (ow_move Z Z Zb))
        ·
         intro w54 D hS33 hd45
         have hl53 := Le.no M1 hS33
         exact dg_sub (E' := [(66, (Zv k1)), (2, (.pointer (some p2p)))]) ⟨dpE hd45 3 Z Z, Z, Zt⟩ (dg_plain Z (ow_indexArr (R := (RSlice RSpan)) Z Z Z (ARep.mono (lz5.trans hl53) hq2p) Tryd.underlying131 (Tryd.sizeOf121 _) hx4 fun p17 hp17 => ⟨BX.refl _ _, ⟨_, Z, hp17⟩⟩))
        ·
         intro w55 D hS34 hd46
         have d80 : PA (RSlice RSpan) M1 x4 (D 4) w55 := dpA hd46 4 Z
         obtain ⟨p18, e13, ha6⟩ := d80
         exact dg_sub (E' := [(67, (.pointer (some p18)))]) ⟨congrArg some e13, Zt⟩ (dg_plain Z (ow_load (R := (RSlice RSpan)) Z Z ha6 (Tryd.sizeOf121 _) (Tryd.isAgg121 _) fun v64 hv64 => ⟨BX.refl _ _, hv64⟩))
        · exact fun w56 D hS35 hd47 => dg_sub (E' := [(6, (Zv k1))]) ⟨Z, Zt⟩ (dg_plain Z (ow_move Z Z Zb))
        ·
         intro w57 D hS36 hd48
         have hl56 := Le.no M1 hS36
         have hC56 := hC23.no hS36
         refine dg_sub (E' := [(69, (Zv k1))]) ⟨dpE hd48 6 Z Z, Zt⟩ (dg_plain Z (ow_call Z Z Tryd.call142 (w_impl_FieldTop (hG.mono (lz5.trans hl56)) hC56.old hx5) fun v65 w58 hv65 => ?_))
         obtain ⟨hv65, hb21⟩ := hv65
         obtain rfl := vint_eq hv65
         exact ⟨hb21, Z⟩
        ·
         intro w59 D hS37 hd49
         have hl58 := Le.no M1 hS37
         have hC58 := hC23.no hS37
         have d82 : PV (RSlice RSpan) M1 x3 (D 2) w59 := dpA hd49 2 Z
         have d83 : PV (RSlice RSpan) M1 x4 (D 5) w59 := dpA hd49 5 Z
         generalize hq19 : (D 2) = v66 at d82
         generalize hq20 : (D 5) = v67 at d83
         refine dg_sub (E' := [(65, v66), (68, v67), (70, (Zv x5))]) ⟨congrArg some hq19, congrArg some hq20, dpE hd49 7 Z Z, Zt⟩ (dg_plain Z (ow_call Z Z Tryd.call155 (w_impl_meetSpans (hG.mono (lz5.trans hl58)) hC58.old d82 d83 hx9) fun v68 w60 hv68 => ?_))
         obtain ⟨⟨v69, v70, rfl, hv69, hv70⟩, hb22⟩ := hv68
         obtain ⟨bb18, hbb18, rfl⟩ := vbool_ex hv70
         exact ⟨hb22, ⟨_, _, Z, hv69, (congrArg Value.bool hbb18)⟩⟩
        ·
         intro w61 D hS38 hd50
         have d86 : PT2 (PV (RSlice RSpan) M1 x9.1) (PEq (.bool x9.2)) (D 8) w61 := dpA hd50 8 Z
         obtain ⟨v71, v72, e14, hd51, hd52⟩ := d86
         obtain ⟨bb19, hq21, rfl⟩ : ∃ b, b = x9.2 ∧ v72 = .bool b := ⟨_, rfl, hd52⟩
         exact dg_sub (E' := [(71, (.tuple #[v71, (.bool bb19)]))]) ⟨congrArg some e14, Zt⟩ (dg_plain Z (ow_move Z Z ⟨BX.refl _ _, ⟨_, _, Z, hd51, (congrArg Value.bool hq21)⟩⟩))
        ·
         intro w62 D hS39 hd53
         have d87 : PT2 (PV (RSlice RSpan) M1 x9.1) (PEq (.bool x9.2)) (D 9) w62 := dpA hd53 9 Z
         obtain ⟨v73, v74, e15, hd54, hd55⟩ := d87
         obtain ⟨bb20, hq22, rfl⟩ : ∃ b, b = x9.2 ∧ v74 = .bool b := ⟨_, rfl, hd55⟩
         exact dg_sub (E' := [(62, (.tuple #[v73, (.bool bb20)]))]) ⟨congrArg some e15, Zt⟩ (dg_plain Z (ow_extract Z Z Z ⟨BX.refl _ _, hd54⟩))
        ·
         intro w63 D hS40 hd56
         have d88 : PT2 (PV (RSlice RSpan) M1 x9.1) (PEq (.bool x9.2)) (D 9) w63 := dpA hd56 9 Z
         obtain ⟨v75, v76, e16, hd57, hd58⟩ := d88
         obtain ⟨bb21, hq23, rfl⟩ : ∃ b, b = x9.2 ∧ v76 = .bool b := ⟨_, rfl, hd58⟩
         exact dg_sub (E' := [(62, (.tuple #[v75, (.bool bb21)]))]) ⟨congrArg some e16, Zt⟩ (dg_plain Z (ow_extract Z Z Z ⟨BX.refl _ _, (congrArg Value.bool hq23)⟩))
        ·
         intro w64 D hS41 hd59
         have d89 : PV (RSlice RSpan) M1 x9.1 (D 10) w64 := dpA hd59 10 Z
         generalize hq24 : (D 10) = v77 at d89
         exact dg_sub (E' := [(72, v77)]) ⟨congrArg some hq24, Zt⟩ (dg_plain Z (ow_assign Z Z ⟨BX.refl _ _, d89⟩))
        ·
         intro w65 D hS42 hd60
         have d113 : PEq (.bool x9.2) (D 11) w65 := dpA hd60 11 Z
         have d114 : PV (RSlice RSpan) M1 x9.1 (D 12) w65 := dpA hd60 12 Z
         have hl64 := Le.no M1 hS42
         have hC64 := hC23.no hS42
         have hJ64 := hY.go hJ23 hS42 (fun _ e => e.elim) (fun _ h => h) hl64
         have ho87 := ho22.no hS42 hl64
         obtain ⟨bb22, hq25, hq26⟩ : ∃ b, b = x9.2 ∧ (D 11) = .bool b := ⟨_, rfl, d113⟩
         generalize hq27 : (D 12) = v78 at d114
         refine lw_sub (E' := [(73, (.bool bb22)), (10, v78), (0, (.func (.yield l) #[] #[])), (1, (.pointer (some p1p))), (2, (.pointer (some p2p))), (4, (Zw g1 0)), (5, (.bool y1)), (6, (Zv k1)), (22, (Zv k1))]) ⟨congrArg some hq26, congrArg some hq27, Z, Z, Z, Z, Z, Z, Z, Zt⟩ (lw_op Z Z Z (ow_assign Z Z (lw_nil (ew_then (cw_seq (cw_region (lw_op Z Z Z (ow_move Z Z (lw_op Z Z Z (ow_move Z Z ?_))))))))))
         replace hb5 := bind_some hb5
         obtain ⟨x10, hx10, hb5⟩ := hb5
         refine lw_op Z Z Z (ow_indexA (R := (RSlice RSpan)) Z Z Z Z ho87 Tryd.underlying131 (Tryd.sizeOf121 _) hx10 (lw_op0 Z Z (ow_storeElA (X := K) (R := (RSlice RSpan)) Z Z Z Z ho87 hx10 (Tryd.sizeOf121 _) d114 hm2 (.inl hg2) hC64 fun w66 ho88 hb23 hl65 hC65 => ?_)))
         have hJ65 := hY.go hJ64 hb23 (fun b e h => hk2 ((show b = g1 from e) ▸ h)) (fun _ h => h) hl65
         refine lw_nil (ew_then (cw_region (lw_op Z Z Z (ow_move Z Z (lw_op Z Z Z (ow_move Z Z ?_))))))
         replace hb5 := cond_some hb5
         rcases hb5 with ⟨hc7, hb5⟩ | ⟨hc7, hb5⟩
         ·
          subst hc7
          refine lw_on Z Z Z Z Z Z (ow_move Z Z (lw_op Z Z Z (ow_pickT Z Z Z (lw_op Z Z Z (ow_assign Z Z (lw_nil (ew_blockN (ew_then (cw_region (lw_op Z Z Z (ow_add Z Z Z (lw_op Z Z Z (ow_move Z Z (lw_nil ?_))))))))))))))
          have lz6 := (((hl5.trans hl23).trans hl64).trans hl65)
          refine ew_nxt (x9.2, (W (k1 + 1)), (List.set y2 (k1 : Int).toNat x9.1), y3) hb5 fun a ha => ⟨M1, K1, ?_, lz6, hC65, ho88, hm2, hJ65, hge1, hk2⟩
          rw [hq25] at ha
          exact ha.sub ⟨Z, Z, Z, Z, Z, Z, Zt⟩
         ·
          subst hc7
          refine lw_off Z Z Z Z Z Z (lw_op Z Z Z (ow_pickF Z Z Z (lw_op Z Z Z (ow_assign Z Z (lw_nil (ew_blockN (ew_then (cw_region (lw_op Z Z Z (ow_add Z Z Z (lw_op Z Z Z (ow_move Z Z (lw_nil ?_)))))))))))))
          have lz7 := (((hl5.trans hl23).trans hl64).trans hl65)
          exact ew_nxt (false, (W (k1 + 1)), (List.set y2 (k1 : Int).toNat x9.1), y3) hb5 fun a ha => ⟨M1, K1, (ha.sub ⟨Z, Z, Z, Z, Z, Z, Zt⟩), lz7, hC65, ho88, hm2, hJ65, hge1, hk2⟩
      ·
       obtain rfl := hq7.trans hc4
       refine lw_off Z Z Z Z Z Z (lw_off Z Z Z Z Z Z (lw_off Z Z Z Z Z Z (lw_off Z Z Z Z Z Z (lw_off' Z Z Z Z Z Z (lw_off' Z Z Z Z Z Z (lw_off Z Z Z Z Z Z (lw_op Z Z Z (ow_pickT Z Z Z (lw_nil (ew_then (cw_true Z (cw_seq (cw_regionY 1 (lg_op Z Z Z Z (ow_move Z Z (lg_op Z Z Z Z (ow_build (v := .agg #[(.slice none 0 0), (.slice none 0 0), (.slice none 0 0), (.slice none 0 0)]) Z Z (by kernel_rfl) ?_)))))))))))))))))
       have hw2 : VRep (RArr 4 (RSlice RSpan)) w23 M1 [([] : List Span), ([] : List Span), ([] : List Span), ([] : List Span)] (.agg #[(.slice none 0 0), (.slice none 0 0), (.slice none 0 0), (.slice none 0 0)]) := ⟨_, ⟨Z, ⟨_, _, Z, (vslice_nil (R := RSpan) (w := w23) (M := M1)).cells, _, _, Z, (vslice_nil (R := RSpan) (w := w23) (M := M1)).cells, _, _, Z, (vslice_nil (R := RSpan) (w := w23) (M := M1)).cells, _, _, Z, (vslice_nil (R := RSpan) (w := w23) (M := M1)).cells, Z⟩⟩, Z⟩
       refine lg_no hY Z Z Z Z Z Z hJ23 hw2 hC23 hge1 fun w67 hx2 hx2c => lg_end (ew_then (cw_ret (ew_thenR (ew_blockR (ew_thenR (ew_thenR (ew_blockR (ew_brkR ?_))))))))
       have e17 := hR1 _ (sj hb5).symm
       subst e17
       obtain rfl := sj h
       exact ew_ret (res0 Z) ⟨_, Z, Z, .inl ⟨Z, hx2, hx2c.bx⟩⟩
    ·
     obtain rfl := hbb1.trans hc3
     exact cw_false Z (cw_exit (ew_thenX (ew_thenX (ew_blockX (ew_brk (y1, k1, y2, y3) hb5 fun a ha => ⟨M1, K1, (ha.sub ⟨Z, Z, Z, Z, Z, Z, Zt⟩), hl5, hC5, ho4, hm2, hJ5, hge1, hk2⟩)))))
   ·
    rintro ⟨y4, k2, y5, y6⟩ a w68 hlr2 ⟨M3, K3, hF2, hl66, hC66, ho89, hm7, hJ66, hge3, hk7⟩
    subst hlr2
    refine ew_at (E := [(0, (.func (.yield l) #[] #[])), (1, (.pointer (some p1p))), (2, (.pointer (some p2p))), (4, (Zw g1 0)), (5, (.bool y4)), (22, (Zv k2))]) hF2 ?_
    obtain rfl := sj h
    exact ew_end (res0 Z) ⟨_, Z, Z, .inr ⟨Z, _, _, hJ66, hC66⟩⟩
  ·
   subst hc2
   refine cw_true Z (cw_seq (cw_regionY 1 (lg_op Z Z Z Z (ow_move Z Z (lg_op Z Z Z Z (ow_load (R := (RArr 4 (RSlice RSpan))) Z Z (ARep.mono (hl1.trans hl2) hq1p) (Tryd.sizeOf131 _) (Tryd.isAgg131 _) fun v83 hv83 => ?_))))))
   replace h := bind_some h
   obtain ⟨z2, hz2, h⟩ := h
   refine lg_yes hY Z Z Z Z Z Z hJ2 hv83 hz2 hC2 (fun _ h => .inr h) fun w69 K4 M4 hJ67 hb24 hl67 hC67 hM2 hk8 hge4 => lg_end (ew_then (cw_ret (ew_thenR ?_)))
   obtain rfl := sj h
   exact ew_ret (res0 Z) ⟨_, Z, Z, .inr ⟨Z, _, _, hJ67, hC67⟩⟩

theorem w_impl_sides_pieces {w : World} {M : Nat → Prop} (_hG : ARep (RArr 4 RShape) w M shapes ⟨0, 0, none⟩) (hO : ∀ b, M b → b < w.heap.size) {v0p : Value} {a_s : List (List Span)} (h0 : VRep (RArr 4 (RSlice RSpan)) w M a_s v0p) {v1p : Value} {a_other : List (List Span)} (h1 : VRep (RArr 4 (RSlice RSpan)) w M a_other v1p) {r : (List (List Span)) × (List (List Span))} (h : F.impl_sides_pieces a_s a_other = some r) :
  Calls Tryd.prog 166 [v0p, v1p].toArray w fun e w' => ∃ v, e = .returned v ∧ (∃ p q, v = .func (.func 186) #[] #[.pointer (some p), .pointer (some q)] ∧ ARep (RArr 4 (RSlice RSpan)) w' M r.1 p ∧ ARep (RArr 4 (RSlice RSpan)) w' M r.2 q) ∧ BX No w w' := by
 have hC : Cx No w M w M := Cx.start hO (fun _ e => e.elim)
 clear _hG
 refine walk (N := 6) Tryd.func166 Z Tryd.ntmps166 Z (cw_seq (cw_region (lw_op Z Z Z (ow_box (R := (RArr 4 (RSlice RSpan))) Z Z h0 hC fun p1 w1 hp1 hb1 hl1 hC1 => lw_op Z Z Z (ow_box (R := (RArr 4 (RSlice RSpan))) Z Z (VRep.mono hl1 h1) hC1 fun p2 w2 hp2 hb2 hl2 hC2 => lw_op Z Z Z (ow_assign Z Z (lw_nil (ew_then (cw_seq (cw_region (lw_op Z Z Z (ow_makeFunc2 Z Z Z (lw_op Z Z Z (ow_assign Z Z (lw_nil (ew_then (cw_ret ?_)))))))))))))))))
 obtain rfl := sj h
 exact ew_ret (res1 Z (.tmp Z)) ⟨_, Z, ⟨_, _, Z, ARep.mono hC2.back (ARep.mono hl2 hp1), ARep.mono hC2.back hp2⟩, hC2.bx⟩

theorem w_impl_sides_cut {w : World} {M : Nat → Prop} (hG : ARep (RArr 4 RShape) w M shapes ⟨0, 0, none⟩) (hO : ∀ b, M b → b < w.heap.size) {v0p : Value} {a_s : List (List Span)} (h0 : VRep (RArr 4 (RSlice RSpan)) w M a_s v0p) {v1p : Value} {a_other : List (List Span)} (h1 : VRep (RArr 4 (RSlice RSpan)) w M a_other v1p) {r : (List (List (List Span))) × Bool} (h : F.impl_sides_cut a_s a_other = some r) :
  Calls Tryd.prog 125 [v0p, v1p].toArray w fun e w' => ∃ v, e = .returned v ∧ (∃ u0 u1, v = .tuple #[u0, u1] ∧ VRep (RSlice (RArr 4 (RSlice RSpan))) w' M r.1 u0 ∧ VRep RBool w' M r.2 u1) ∧ BX No w w' := by
 obtain ⟨i131, hi131, hz131, hs131, hy131⟩ := info131
 have hC : Cx No w M w M := Cx.start hO (fun _ e => e.elim)
 replace h := bind_some h
 obtain ⟨x1, hx1, h⟩ := h
 replace h := bind_some h
 obtain ⟨x2, hx2, h⟩ := h
 refine walkM (N := 21) Tryd.func125 Z Tryd.ntmps125 Z (cg_seq (cg_region (lg_op Z Z Z Z (ow_box (R := (RArr 4 (RSlice RSpan))) Z Z h0 hC fun p1 w1 hp1 hb1 hl1 hC1 => lg_op Z Z Z Z (ow_box (R := (RArr 4 (RSlice RSpan))) Z Z (VRep.mono hl1 h1) hC1 fun p2 w2 hp2 hb2 hl2 hC2 => lg_op Z Z Z Z (ow_alloc Z (Tryd.zeroValue157 _) hC2 fun g4 w3 hg4 hg40 ho4 hb3 hl3 hC3 => lg_op Z Z Z Z (ow_alloc Z (Tryd.zeroValue4 _) hC3 fun g5 w4 hg5 hg50 ho5 hb4 hl4 hC4 => lg_nil (eg_then (cg_seq (cg_region (lg_op Z Z Z Z (ow_alloc Z (Tryd.zeroValue157 _) hC4 fun g6 w5 hg6 hg60 ho6 hb5 hl5 hC5 => lg_nil (eg_then ?_)))))))))))))
 have hn45 : g4 ≠ g5 := Nat.ne_of_lt (Nat.lt_of_lt_of_le ho4.lt hg5)
 have hn46 : g4 ≠ g6 := Nat.ne_of_lt (Nat.lt_of_lt_of_le (Nat.lt_of_lt_of_le ho4.lt hb4.size) hg6)
 have hn56 : g5 ≠ g6 := Nat.ne_of_lt (Nat.lt_of_lt_of_le ho5.lt hg6)
 replace ho4 := (ho4.no hb4).no hb5
 replace ho5 := ho5.no hb5
 replace hp1 := ARep.mono (((hl2.trans hl3).trans hl4).trans hl5) hp1
 replace hp2 := ARep.mono ((hl3.trans hl4).trans hl5) hp2
 replace hG := hG.mono ((((hl1.trans hl2).trans hl3).trans hl4).trans hl5)
 clear hl1 hl2 hl3 hl4 hl5 hC1 hC2 hC3 hC4 hb1 hb2 hb3 hb4 hb5 hg4 hg5 hg6
 refine cg_seq (cg_seq (cg_region (lg_op Z Z Z Z (ow_load (R := (RArr 4 (RSlice RSpan))) Z Z hp1 (Tryd.sizeOf131 _) (Tryd.isAgg131 _) fun v1 hv1 => lg_op Z Z Z Z (ow_load (R := (RArr 4 (RSlice RSpan))) Z Z hp2 (Tryd.sizeOf131 _) (Tryd.isAgg131 _) fun v2 hv2 => lg_op Z Z Z Z (ow_call Z Z Tryd.call166 (w_impl_sides_pieces hG hC5.old hv1 hv2 hx1) fun v3 w6 hv3 => ?_))))))
 obtain ⟨⟨p, q, rfl, hp, hq⟩, hb6⟩ := hv3
 have hl6 := Le.no (Add g6 (Add g5 (Add g4 M))) hb6
 have hC6 := hC5.no hb6
 replace ho4 := ho4.no hb6
 replace ho5 := ho5.no hb6
 replace ho6 := ho6.no hb6
 replace hG := hG.mono hl6
 refine lg_nil (eg_then (cg_block (cg_rangeFunc (lbl := [.pointer (some p), .pointer (some q)]) Z Tryd.call186 fun fn a ha W hbW hat hsz => ?_)))
 have hlW := Le.no (Add g6 (Add g5 (Add g4 M))) hbW
 have hC7 := hC6.no hbW
 replace ho4 := ho4.no hbW
 replace ho5 := ho5.no hbW
 replace ho6 := ho6.no hbW
 have hD0 : w.heap.size ≤ w6.heap.size := hC6.bx.size
 have hC8 := (hC7.add hat.ltD hD0).add hat.ltl (Nat.le_succ_of_le hD0)
 have hl8 := (hlW.add (Nat.le_refl w6.heap.size)).add (Nat.le_succ w6.heap.size)
 generalize hMW : Add (w6.heap.size + 1) (Add w6.heap.size (Add g6 (Add g5 (Add g4 M)))) = MW at hC8 hl8
 generalize hl : w6.heap.size + 1 = l at *
 generalize hD : w6.heap.size = D at *
 generalize hrec : ({ state := .ready, pending := none, fn, tmps := a.tmps, params := _, assign := _, body := _, defers := D } : Loop) = rec at hat
 have hcol : Col (RArr 4 (RSlice RSpan)) w.heap.size g4 g5 g6 l D 157 4 131 rec [] (.slice none 0 0) MW W := by
  refine ⟨ho4, ho5, ho6, ownrow_nil, (fun b e => by cases e), hat, ?_⟩
  subst hMW
  rintro b (rfl | rfl | rfl | rfl | rfl | e)
  ·
   exact .inr (.inr (.inr (.inr (.inl Z))))
  ·
   exact .inr (.inr (.inr (.inl Z)))
  ·
   exact .inr (.inr (.inl Z))
  ·
   exact .inl Z
  ·
   exact .inr (.inl Z)
  ·
   cases e
 have hk0 : ∀ b, KS g4 g5 g6 l D (.slice none 0 0) b → w.heap.size ≤ b := by
  rintro b (rfl | rfl | rfl | rfl | rfl | e)
  ·
   exact hg40
  ·
   exact hg50
  ·
   exact hg60
  ·
   omega
  ·
   omega
  ·
   cases e
 have hY : Yd Tryd.prog l (RArr 4 (RSlice RSpan)) (ColJ (RArr 4 (RSlice RSpan)) w.heap.size g4 g5 g6 l D 157 4 131 rec) (fun w' => Own w' g4 157 #[.slice none 0 0] ∧ Own w' g5 4 #[.bool false] ∧ RecAt w' l D { rec with state := .done, pending := some .ret }) := by
  refine col_yd ?_ ?_
  ·
   intro xs ys M1 W1 x v u hc hv hap ho
   refine yield2 hc.at_ hrec ha (by decide) (by decide) ?_
   have hn0 : w.heap.size ≤ W1.heap.size := by have := hc.at_.ltD; omega
   have hc0 : Cx M1 { W1 with heap := #[] } (fun _ => False) W1 M1 := Cx.bare (fun _ h => h) ho
   refine cg_seq (cg_region (lg_allocStore (R := (RArr 4 (RSlice RSpan))) Z Z Z Z Z Z Z Tryd.zeroValue131 Tryd.sizeOf131 Z Z Z (by simp) hv hc0 fun p3 W2 hp3 hb2 hl2 hc2 => lg_nil (eg_then (cg_region (lg_op Z Z Z Z (ow_assign Z Z (lg_nil ?_)))))))
   have hd2 := hc.go hb2 (fun _ e => e.elim) (fun _ h => h) hl2
   refine eg_begin hd2.at_ (by rw [← hrec]) ?_
   have hb3 := BX.putObj W2 l (.loop { rec with state := .busy })
   have hat3 : RecAt (W2.putObj l (.loop { rec with state := .busy })) l D { rec with state := .busy } := hd2.at_.put
   generalize W2.putObj l (.loop { rec with state := .busy }) = W3 at hb3 hat3
   have hml : M1 l := hc.mem l (.inr (.inr (.inr (.inl Z))))
   have hl3 : Le W2 M1 W3 M1 := Le.of_bx M1 hb3 (fun b e => (show b = l from e) ▸ hml)
   have hc3 := hc2.go hb3 (fun b e => .inr ((show b = l from e) ▸ hml))
   have o4 := hd2.o4.go hb3 (hd2.o4.ne_l hd2.at_)
   have o5 := hd2.o5.go hb3 (hd2.o5.ne_l hd2.at_)
   have o6 := hd2.o6.go hb3 (hd2.o6.ne_l hd2.at_)
   have hr3 := hd2.row.go hb3 (fun k hk e => orow_ne_l hd2.row hd2.at_ (hk.trans (congrArg some (show k = l from e)))) hl3 (fun _ h => h)
   replace hp3 := ARep.mono hl3 hp3
   refine cg_block (cg_seq (cg_seq (cg_region (lg_op Z Z Z Z (ow_move Z Z (lg_op Z Z Z Z (ow_not Z Z (lg_nil (eg_then (cg_false Z (cg_skip (eg_then (cg_region ?_)))))))))))))
   have hB0 : OwnRow (RArr 4 (RSlice RSpan)) ({ W1 with heap := #[] } : World).heap.size 131 W3 M1 xs u := hr3
   refine lg_op Z Z Z Z (ow_loadOwn1 Z Z Z o6 (Tryd.isAgg157 _) Z (lg_op Z Z Z Z (ow_load (R := (RArr 4 (RSlice RSpan))) Z Z hp3 (Tryd.sizeOf131 _) (Tryd.isAgg131 _) fun v1 hv1 => ?_)))
   obtain ⟨cc1, cc2, cc3, cc4, rfl⟩ := open_arr4 hv1 rfl
   refine lg_op Z Z Z Z (ow_buildSlice (R := (RArr 4 (RSlice RSpan))) (xs := [x]) (cs := #[cc1, cc2, cc3, cc4]) (e := 131) Z Z (by kernel_rfl) Z Z ⟨_, _, Z, hv1.cells, Z⟩ hc3 fun p4 W4 hw4 hb4 hl4 hc4 => lg_op Z Z Z Z (ow_append (R := (RArr 4 (RSlice RSpan))) Z Z Z Z Tryd.underlying157 hi131 hz131 hs131 hy131 Z Z Z Z (hB0.no hb4) hw4 hap hc4 fun u5 W5 M5 hr5 hb5 hl5 hc5 hM5 hat5 => ?_))
   have hrow4 := hB0.no hb4
   have o45 := (o4.no hb4).go hb5 (orow_ne hrow4 (o4.no hb4) (by decide))
   have o55 := (o5.no hb4).go hb5 (orow_ne hrow4 (o5.no hb4) (by decide))
   have o65 := (o6.no hb4).go hb5 (orow_ne hrow4 (o6.no hb4) (by decide))
   have hat4 := hat3.go hb4 (fun e => e) (fun e => e)
   have hat55 := hat4.go hb5 (orow_ne_l hrow4 hat4) (orow_ne_D hrow4 hat4)
   obtain ⟨A5, c5, rfl⟩ := hr5.len
   have hm6 : M5 g6 := hM5 _ (hc.mem g6 (.inr (.inr (.inl Z))))
   refine lg_op0 Z Z Z (ow_store (X := M1) (us := [(.slice A5 ys.length c5)]) (cs' := #[(.slice A5 ys.length c5)]) Z Z Z Z o65 (Tryd.sizeOf157 _) Z Z Z Z hm6 (.inl (Nat.zero_le _)) Z hc5 fun W6 o66 hb6' hl6' hc6 => ?_)
   have o46 := o45.go hb6' (fun e => hn46 e)
   have o56 := o55.go hb6' (fun e => hn56 e)
   have hat6 := hat55.go hb6' (fun e => o65.ne_l hat55 (show l = g6 from e).symm) (fun e => o65.ne_D hat55 (show D = g6 from e).symm)
   have hr6 := hr5.go hb6' (fun k hk e => (orow_ne hr5 o65 (by decide)) (hk.trans (congrArg some e))) hl6' (fun _ h => h)
   refine lg_nil (eg_blockN (eg_next hat6 (by rw [← hrec]) (by rw [← hrec]) ⟨Z, ?_⟩))
   have hb7 := BX.putObj W6 l (.loop rec)
   have hat7 : RecAt (W6.putObj l (.loop rec)) l D rec := hat6.put
   generalize W6.putObj l (.loop rec) = W7 at hb7 hat7
   have hml7 : M5 l := hM5 _ hml
   have hl7 : Le W6 M5 W7 M5 := Le.of_bx M5 hb7 (fun b e => (show b = l from e) ▸ hml7)
   have hK : ∀ b, b = l → KS g4 g5 g6 l D u b := fun b e => .inr (.inr (.inr (.inl e)))
   have hs14 : W1.heap.size ≤ W4.heap.size := Nat.le_trans hb2.size (Nat.le_trans hb3.size hb4.size)
   have hbA : BX (KS g4 g5 g6 l D u) W1 W4 := (hb2.mono fun _ _ e => e.elim).trans ((hb3.mono fun b _ e => hK b e).trans (hb4.mono fun _ _ e => e.elim))
   have hbB : BX (KS g4 g5 g6 l D u) W4 W5 := hb5.mono fun b _ e => .inr (.inr (.inr (.inr (.inr e))))
   have hbC : BX (KS g4 g5 g6 l D u) W5 W6 := hb6'.mono fun b _ e => .inr (.inr (.inl e))
   have hbD : BX (KS g4 g5 g6 l D u) W6 W7 := hb7.mono fun b _ e => hK b e
   have hlall := ((((hl2.trans hl3).trans hl4).trans hl5).trans hl6').trans hl7
   have hold7 : ∀ b, M5 b → b < W7.heap.size := fun b h => Nat.lt_of_lt_of_le (hc6.old b h) hb7.size
   have hown5 : ∀ b, (Value.slice A5 ys.length c5).ownBlock = some b → u.ownBlock = some b ∨ b = W4.heap.size := fun b e => hat5.elim (fun h => .inl (h ▸ e)) fun h => .inr (by rw [h] at e; exact (sj e).symm)
   refine ⟨_, M5, ⟨o46.go hb7 (o46.ne_l hat6), o56.go hb7 (o56.ne_l hat6), o66.go hb7 (o66.ne_l hat6), hr6.go hb7 (fun k hk e => orow_ne_l hr6 hat6 (hk.trans (congrArg some (show k = l from e)))) hl7 (fun _ h => h), ?_, hat7, ?_⟩, hbA.trans (hbB.trans (hbC.trans hbD)), hM5, ?_, ?_⟩
   ·
    intro b e
    rcases hown5 b e with h | h
    ·
     exact hc.rb b h
    ·
     have := hs14; have := hn0; omega
   ·
    rintro b (rfl | rfl | rfl | rfl | rfl | e)
    ·
     exact hM5 _ (hc.mem _ (.inl Z))
    ·
     exact hM5 _ (hc.mem _ (.inr (.inl Z)))
    ·
     exact hm6
    ·
     exact hml7
    ·
     exact hM5 _ (hc.mem _ (.inr (.inr (.inr (.inr (.inl Z))))))
    ·
     exact hr6.mem b e
   ·
    intro b hb
    by_cases hlt : b < W1.heap.size
    ·
     exact .inl (hlall.old b hlt hb)
    ·
     exact .inr ⟨by omega, hold7 b hb⟩
   ·
    rintro b (rfl | rfl | rfl | rfl | rfl | e)
    ·
     exact .inl (.inl Z)
    ·
     exact .inl (.inr (.inl Z))
    ·
     exact .inl (.inr (.inr (.inl Z)))
    ·
     exact .inl (.inr (.inr (.inr (.inl Z))))
    ·
     exact .inl (.inr (.inr (.inr (.inr (.inl Z)))))
    ·
     rcases hown5 b e with h | h
     ·
      exact .inl (.inr (.inr (.inr (.inr (.inr h)))))
     ·
      exact .inr (by have := hs14; omega)
  ·
   intro xs M1 W1 x v u hc hv ho
   refine yield2 hc.at_ hrec ha (by decide) (by decide) ?_
   have hc0 : Cx M1 { W1 with heap := #[] } (fun _ => False) W1 M1 := Cx.bare (fun _ h => h) ho
   refine cg_seq (cg_region (lg_allocStore (R := (RArr 4 (RSlice RSpan))) Z Z Z Z Z Z Z Tryd.zeroValue131 Tryd.sizeOf131 Z Z Z (by simp) hv hc0 fun p3 W2 hp3 hb2 hl2 hc2 => lg_nil (eg_then (cg_region (lg_op Z Z Z Z (ow_assign Z Z (lg_nil ?_)))))))
   have hd2 := hc.go hb2 (fun _ e => e.elim) (fun _ h => h) hl2
   refine eg_begin hd2.at_ (by rw [← hrec]) ?_
   have hb3 := BX.putObj W2 l (.loop { rec with state := .busy })
   have hat3 : RecAt (W2.putObj l (.loop { rec with state := .busy })) l D { rec with state := .busy } := hd2.at_.put
   generalize W2.putObj l (.loop { rec with state := .busy }) = W3 at hb3 hat3
   have hc3 := hc2.go hb3 (fun b e => .inr ((show b = l from e) ▸ hc.mem l (.inr (.inr (.inr (.inl Z))))))
   have o4 := hd2.o4.go hb3 (hd2.o4.ne_l hd2.at_)
   have o5 := hd2.o5.go hb3 (hd2.o5.ne_l hd2.at_)
   refine cg_block (cg_seq (cg_seq (cg_region (lg_op Z Z Z Z (ow_move Z Z (lg_op Z Z Z Z (ow_not Z Z (lg_nil (eg_then (cg_true Z (cg_seq (cg_region (lg_op0 Z Z Z (ow_store (X := M1) (us := [(.slice none 0 0)]) (cs' := #[(.slice none 0 0)]) Z Z Z Z o4 (Tryd.sizeOf157 _) Z Z Z Z (hc.mem g4 (.inl Z)) (.inl (Nat.zero_le _)) Z hc3 fun W4 o44 hb4 hl4 hc4 => ?_))))))))))))))
   have o54 := o5.go hb4 (fun e => hn45 e.symm)
   have hat4 := hat3.go hb4 (fun e => o4.ne_l hat3 (show l = g4 from e).symm) (fun e => o4.ne_D hat3 (show D = g4 from e).symm)
   refine lg_op0 Z Z Z (ow_store (X := M1) (us := [(.bool false)]) (cs' := #[(.bool false)]) Z Z Z Z o54 (Tryd.sizeOf4 _) Z Z Z Z (hc.mem g5 (.inr (.inl Z))) (.inl (Nat.zero_le _)) Z hc4 fun W5 o55 hb5 hl5 hc5 => ?_)
   have o45 := o44.go hb5 (fun e => hn45 e)
   have hat5 := hat4.go hb5 (fun e => o54.ne_l hat4 (show l = g5 from e).symm) (fun e => o54.ne_D hat4 (show D = g5 from e).symm)
   refine lg_nil (eg_then (cg_ret (eg_thenR (eg_blockR (eg_stop hat5 ⟨Z, ?_⟩)))))
   have hb6 := BX.putObj W5 l (.loop { rec with state := .done, pending := some .ret })
   have hat6 : RecAt (W5.putObj l (.loop { rec with state := .done, pending := some .ret })) l D { rec with state := .done, pending := some .ret } := hat5.put
   have hK : ∀ b, b = l → KS g4 g5 g6 l D u b := fun b e => .inr (.inr (.inr (.inl e)))
   exact ⟨⟨o45.go hb6 (o45.ne_l hat5), o55.go hb6 (o55.ne_l hat5), hat6⟩, (hb2.mono fun _ _ e => e.elim).trans ((hb3.mono fun b _ e => hK b e).trans ((hb4.mono fun b _ e => .inl e).trans ((hb5.mono fun b _ e => .inr (.inl e)).trans (hb6.mono fun b _ e => hK b e))))⟩
 have hgW := hG.mono hl8
 refine (w_impl_sides_pieces_1 hgW hC8.old hY ⟨_, Z, hcol⟩ (ARep.mono hl8 hp) (ARep.mono hl8 hq) hx2).mono ?_
 rintro e w3 ⟨v, rfl, rfl, hend⟩
 rcases hend with ⟨hs, ⟨o4, o5, hat3⟩, hb3⟩ | ⟨hs, K, M', ⟨u, rfl, hc3⟩, hC9⟩
 ·
  rw [hs] at h
  obtain rfl := sj h
  refine ⟨_, _, Z, hat3, by simp, .inr ⟨_, Z, ?_⟩⟩
  have hC9 := hC8.go hb3 (fun b e => .inl (hk0 b e))
  have hb4 := BX.putObj w3 l (.loop { rec with state := .exhausted, pending := some .ret })
  have hat4 : RecAt (w3.putObj l (.loop { rec with state := .exhausted, pending := some .ret })) l D { rec with state := .exhausted, pending := some .ret } := hat3.put
  replace o4 := o4.go hb4 (o4.ne_l hat3)
  replace o5 := o5.go hb4 (o5.ne_l hat3)
  have hC10 := hC9.go hb4 (fun b e => .inl (by have : b = l := e; omega))
  refine cg_ret (eg_blockR (eg_thenR ?_))
  have hb5 := BX.putObj (w3.putObj l (.loop { rec with state := .exhausted, pending := some .ret })) D (.deferred none)
  have hC11 := hC10.go hb5 (fun b e => .inl (by have : b = D := e; omega))
  refine eg_retM hat4.2 (res2 Z (.cell Z (own_loadVar1 (o4.go hb5 (o4.ne_D hat4)) (Tryd.isAgg157 _))) (.cell Z (own_loadVar1 (o5.go hb5 (o5.ne_D hat4)) (Tryd.isAgg4 _)))) ⟨_, Z, ⟨_, _, Z, vslice_nil, vbool _⟩, hC11.bx⟩
 ·
  rw [hs] at h
  obtain rfl := sj h
  have hC10 := hC8.trans2 hC9 (fun b e => .inl (hk0 b e))
  refine ⟨_, rec, Z, hc3.at_, by rw [← hrec]; simp, .inl ⟨by rw [← hrec], ?_⟩⟩
  have hb4 := BX.putObj w3 l (.loop { rec with state := .exhausted })
  have hat4 : RecAt (w3.putObj l (.loop { rec with state := .exhausted })) l D { rec with state := .exhausted } := hc3.at_.put
  generalize w3.putObj l (.loop { rec with state := .exhausted }) = w4 at hb4 hat4
  have o4 := hc3.o4.go hb4 (hc3.o4.ne_l hc3.at_)
  have o5 := hc3.o5.go hb4 (hc3.o5.ne_l hc3.at_)
  have o6 := hc3.o6.go hb4 (hc3.o6.ne_l hc3.at_)
  have hml : M' l := hc3.mem l (.inr (.inr (.inr (.inl Z))))
  have hl4 : Le w3 M' w4 M' := Le.of_bx M' hb4 (fun b e => (show b = l from e) ▸ hml)
  have hC11 := hC10.go hb4 (fun b e => .inl (by have : b = l := e; omega))
  have hr4 := (hc3.row.go hb4 (fun k hk e => orow_ne_l hc3.row hc3.at_ (hk.trans (congrArg some (show k = l from e)))) hl4 (fun _ h => h)).raise hc3.rb
  refine eg_blockN (eg_then (cg_seq (cg_region (lg_op Z Z Z Z (ow_loadOwn1 Z Z Z o6 (Tryd.isAgg157 _) Z ?_)))))
  obtain ⟨A5, c5, rfl⟩ := hr4.len
  refine lg_op0 Z Z Z (ow_store (X := No) (us := [(.slice A5 x2.2.length c5)]) (cs' := #[(.slice A5 x2.2.length c5)]) Z Z Z Z o4 (Tryd.sizeOf157 _) Z Z Z Z (hc3.mem g4 (.inl Z)) (.inl hg40) Z hC11 fun w5 o45 hb5 hl5 hC12 => ?_)
  have o55 := o5.go hb5 (fun e => hn45 e.symm)
  have hat5 := hat4.go hb5 (fun e => o4.ne_l hat4 (show l = g4 from e).symm) (fun e => o4.ne_D hat4 (show D = g4 from e).symm)
  have hr5 := hr4.go hb5 (fun k hk e => (orow_ne hr4 o4 (by decide)) (hk.trans (congrArg some e))) hl5 (fun _ h => h)
  refine lg_op0 Z Z Z (ow_store (X := No) (us := [(.bool true)]) (cs' := #[(.bool true)]) Z Z Z Z o55 (Tryd.sizeOf4 _) Z Z Z Z (hc3.mem g5 (.inr (.inl Z))) (.inl hg50) Z hC12 fun w6' o56 hb6' hl6' hC13 => ?_)
  have o46 := o45.go hb6' (fun e => hn45 e)
  have hat6 := hat5.go hb6' (fun e => o55.ne_l hat5 (show l = g5 from e).symm) (fun e => o55.ne_D hat5 (show D = g5 from e).symm)
  have hr6 := hr5.go hb6' (fun k hk e => (orow_ne hr5 o55 (by decide)) (hk.trans (congrArg some e))) hl6' (fun _ h => h)
  refine lg_nil (eg_then (cg_ret ?_))
  have hb7 := BX.putObj w6' D (.deferred none)
  have hmD : M' D := hc3.mem D (.inr (.inr (.inr (.inr (.inl Z)))))
  have hl7 : Le w6' M' _ M' := Le.of_bx M' hb7 (fun b e => (show b = D from e) ▸ hmD)
  have hC14 := hC13.go hb7 (fun b e => .inl (by have : b = D := e; omega))
  have hr7 := hr6.go hb7 (fun k hk e => orow_ne_D hr6 hat6 (hk.trans (congrArg some (show k = D from e)))) hl7 (fun _ h => h)
  refine eg_retM hat6.2 (res2 Z (.cell Z (own_loadVar1 (o46.go hb7 (o46.ne_D hat6)) (Tryd.isAgg157 _))) (.cell Z (own_loadVar1 (o56.go hb7 (o56.ne_D hat6)) (Tryd.isAgg4 _)))) ⟨_, Z, ⟨_, _, Z, hr7.freezeBack hC14 hO, vbool _⟩, hC14.bx⟩

theorem w_impl_sides_lessRegion {w : World} {M : Nat → Prop} (hG : ARep (RArr 4 RShape) w M shapes ⟨0, 0, none⟩) (hO : ∀ b, M b → b < w.heap.size) {v0p : Value} {a_s : List (List Span)} (h0 : VRep (RArr 4 (RSlice RSpan)) w M a_s v0p) {v1p : Value} {a_region : List (List (List Span))} (h1 : VRep (RSlice (RArr 4 (RSlice RSpan))) w M a_region v1p) {r : (List (List (List Span))) × Bool} (h : F.impl_sides_lessRegion a_s a_region = some r) :
  Calls Tryd.prog 130 [v0p, v1p].toArray w fun e w' => ∃ v, e = .returned v ∧ (∃ u0 u1, v = .tuple #[u0, u1] ∧ VRep (RSlice (RArr 4 (RSlice RSpan))) w' M r.1 u0 ∧ VRep RBool w' M r.2 u1) ∧ BX No w w' := by
 obtain ⟨i131, hi131, hz131, hs131, hy131⟩ := info131
 have hC : Cx No w M w M := Cx.start hO (fun _ e => e.elim)
 refine walk (N := 56) Tryd.func130 Z Tryd.ntmps130 Z (cw_seq (cw_region (lw_op Z Z Z (ow_box (R := (RArr 4 (RSlice RSpan))) Z Z h0 hC fun p1 w1 hp1 hb1 hl1 hC1 => lw_op Z Z Z (ow_assign Z Z (lw_op Z Z Z (ow_assign Z Z (lw_nil (ew_then (cw_seq (cw_seq (cw_region (lw_op Z Z Z (ow_load (R := (RArr 4 (RSlice RSpan))) Z Z hp1 (Tryd.sizeOf131 _) (Tryd.isAgg131 _) fun v1 hv1 => ?_))))))))))))))
 replace h := bind_some h
 obtain ⟨x1, hx1, h⟩ := h
 refine lw_op Z Z Z (ow_call Z Z Tryd.call92 (w_impl_sides_empty (hG.mono hl1) hC1.old hv1 hx1) fun v2 w2 hv2 => ?_)
 obtain ⟨hv2, hb2⟩ := hv2
 have hl2 := Le.no M hb2
 have hC2 := hC1.no hb2
 obtain rfl := vbool_eq hv2
 refine lw_nil (ew_then ?_)
 replace h := cond_some h
 rcases h with ⟨hc1, h⟩ | ⟨hc1, h⟩
 ·
  subst hc1
  refine cw_true Z (cw_seq (cw_region (lw_op Z Z Z (ow_assign Z Z (lw_op Z Z Z (ow_assign Z Z (lw_nil (ew_then (cw_ret (ew_thenR ?_))))))))))
  obtain rfl := sj h
  exact ew_ret (res2 Z (.tmp Z) (.tmp Z)) ⟨_, Z, ⟨_, _, Z, (VRep.mono hC2.back (vslice_nil (R := (RArr 4 (RSlice RSpan))) (w := w2) (M := M))), ((vbool _))⟩, hC2.bx⟩
 ·
  subst hc1
  refine cw_false Z (cw_skip (ew_then (cw_seq (cw_region (lw_op Z Z Z (ow_load (R := (RArr 4 (RSlice RSpan))) Z Z (ARep.mono hl2 hp1) (Tryd.sizeOf131 _) (Tryd.isAgg131 _) fun v3 hv3 => ?_))))))
  obtain ⟨cc1, cc2, cc3, cc4, rfl⟩ := open_arr4 hv3 rfl
  refine lw_op Z Z Z (ow_buildSlice (R := (RArr 4 (RSlice RSpan))) (xs := [a_s]) (cs := #[cc1, cc2, cc3, cc4]) (e := 131) Z Z (by kernel_rfl) Z Z ⟨_, _, Z, hv3.cells, Z⟩ hC2 fun p2 w3 hw1 hb3 hl3 hC3 => lw_op Z Z Z (ow_assign Z Z (lw_nil (ew_then (cw_seq (cw_seq (cw_region (lw_op Z Z Z (ow_move Z Z ?_)))))))))
  have lz1 := ((hl1.trans hl2).trans hl3)
  refine lw_op Z Z Z (ow_len Z Z (VRep.mono lz1 h1) Tryd.underlying157 Z (lw_op Z Z Z (ow_move Z Z (lw_nil (ew_then ?_)))))
  replace h := bind_some h
  obtain ⟨lr1, hlr1, h⟩ := h
  refine cw_for hlr1 (fun s a w' => ∃ (M' : Nat → Prop) (v0c : Value), Fits 56 [(6, v0c), (18, v1p), (19, (Zv (a_region.length : Int))), (20, (Zv s.2))] a ∧ Le w3 M w' M' ∧ Cx No w M w' M' ∧ VRep (RSlice (RArr 4 (RSlice RSpan))) w' M' s.1 v0c) ?_ ?_ ?_
  · exact fun a ha => ⟨M, (.slice (some p2) 1 1), ha.sub ⟨Z, Z, Z, Z, Zt⟩, Le.refl _ _, hC3, hw1⟩
  ·
   rintro ⟨y1, k1⟩ a w4 sr1 ⟨M1, v4, hF1, hl4, hC4, hw2⟩ hb4 hR1
   refine cw_at (E := [(6, v4), (18, v1p), (19, (Zv (a_region.length : Int))), (20, (Zv k1))]) hF1 (cw_seq (cw_region (lw_op Z Z Z (ow_lss Z Z Z fun bb1 hbb1 => lw_nil (ew_then (cw_seq ?_))))))
   replace hb4 := cond_some hb4
   rcases hb4 with ⟨hc2, hb4⟩ | ⟨hc2, hb4⟩
   ·
    obtain rfl := hbb1.trans hc2
    refine cw_true Z (cw_skip (ew_then (cw_seq (cw_block (cw_seq (cw_region ?_))))))
    replace hb4 := bind_some hb4
    obtain ⟨x2, hx2, hb4⟩ := hb4
    refine lw_op Z Z Z (ow_indexSlice (R := (RArr 4 (RSlice RSpan))) Z Z Z (VRep.mono (lz1.trans hl4) h1) Tryd.underlying157 (Tryd.sizeOf131 _) hx2 fun p3 hp3 => lw_op Z Z Z (ow_load (R := (RArr 4 (RSlice RSpan))) Z Z hp3 (Tryd.sizeOf131 _) (Tryd.isAgg131 _) fun v6 hv6 => lw_allocStore (R := (RArr 4 (RSlice RSpan))) Z Z Z Z Z Z Z Tryd.zeroValue131 Tryd.sizeOf131 Z Z Z (by simp) hv6 hC4 fun p4 w5 hp4 hb5 hl5 hC5 => lw_nil (ew_then (cw_seq (cw_region (lw_op Z Z Z (ow_assign Z Z (lw_nil (ew_then (cw_seq (cw_seq (cw_region (lw_op Z Z Z (ow_move Z Z (lw_op Z Z Z (ow_len Z Z (VRep.mono hl5 hw2) Tryd.underlying157 Z (lw_op Z Z Z (ow_move Z Z (lw_nil (ew_then ?_))))))))))))))))))))
    have hr1 : OwnRow (RArr 4 (RSlice RSpan)) w.heap.size 131 w5 M1 ([] : List (List (List Span))) (.slice none 0 0) := ownrow_nil
    replace hb4 := bind_some hb4
    obtain ⟨lr2, hlr2, hb4⟩ := hb4
    refine cw_for hlr2 (fun s a w' => ∃ (M' : Nat → Prop) (v0c : Value), Fits 56 [(8, (.pointer (some p4))), (9, v0c), (18, v1p), (19, (Zv (a_region.length : Int))), (20, (Zv k1)), (24, v4), (25, (Zv (y1.length : Int))), (26, (Zv s.2))] a ∧ Le w5 M1 w' M' ∧ Cx No w M w' M' ∧ OwnRow (RArr 4 (RSlice RSpan)) w.heap.size 131 w' M' s.1 v0c) ?_ ?_ ?_
    · exact fun a ha => ⟨M1, (.slice none 0 0), ha.sub ⟨Z, Z, Z, Z, Z, Z, Z, Z, Zt⟩, Le.refl _ _, hC5, hr1⟩
    ·
     rintro ⟨y2, k2⟩ a w6 sr2 ⟨M2, v7, hF2, hl6, hC6, hw3⟩ hb6 hR2
     refine cw_at (E := [(8, (.pointer (some p4))), (9, v7), (18, v1p), (19, (Zv (a_region.length : Int))), (20, (Zv k1)), (24, v4), (25, (Zv (y1.length : Int))), (26, (Zv k2))]) hF2 (cw_seq (cw_region (lw_op Z Z Z (ow_lss Z Z Z fun bb2 hbb2 => lw_nil (ew_then (cw_seq ?_))))))
     replace hb6 := cond_some hb6
     rcases hb6 with ⟨hc3, hb6⟩ | ⟨hc3, hb6⟩
     ·
      obtain rfl := hbb2.trans hc3
      refine cw_true Z (cw_skip (ew_then (cw_seq (cw_block (cw_seq (cw_region ?_))))))
      replace hb6 := bind_some hb6
      obtain ⟨x3, hx3, hb6⟩ := hb6
      refine lw_op Z Z Z (ow_indexSlice (R := (RArr 4 (RSlice RSpan))) Z Z Z (VRep.mono (hl5.trans hl6) hw2) Tryd.underlying157 (Tryd.sizeOf131 _) hx3 fun p5 hp5 => lw_op Z Z Z (ow_load (R := (RArr 4 (RSlice RSpan))) Z Z hp5 (Tryd.sizeOf131 _) (Tryd.isAgg131 _) fun v9 hv9 => lw_allocStore (R := (RArr 4 (RSlice RSpan))) Z Z Z Z Z Z Z Tryd.zeroValue131 Tryd.sizeOf131 Z Z Z (by simp) hv9 hC6 fun p6 w7 hp6 hb7 hl7 hC7 => ?_))
      have hr2 := hw3.no hb7
      refine lw_nil (ew_then (cw_seq (cw_region (lw_op Z Z Z (ow_load (R := (RArr 4 (RSlice RSpan))) Z Z hp6 (Tryd.sizeOf131 _) (Tryd.isAgg131 _) fun v10 hv10 => lw_op Z Z Z (ow_load (R := (RArr 4 (RSlice RSpan))) Z Z (ARep.mono (hl6.trans hl7) hp4) (Tryd.sizeOf131 _) (Tryd.isAgg131 _) fun v11 hv11 => ?_))))))
      replace hb6 := bind_some hb6
      obtain ⟨x4, hx4, hb6⟩ := hb6
      have lz2 := ((((lz1.trans hl4).trans hl5).trans hl6).trans hl7)
      refine lw_op Z Z Z (ow_call Z Z Tryd.call125 (w_impl_sides_cut (hG.mono lz2) hC7.old hv10 hv11 hx4) fun v12 w8 hv12 => ?_)
      obtain ⟨⟨v13, v14, rfl, hv13, hv14⟩, hb8⟩ := hv12
      have hl8 := Le.no M2 hb8
      have hC8 := hC7.no hb8
      have hr3 := hr2.no hb8
      obtain ⟨bb3, hbb3, rfl⟩ := vbool_ex hv14
      refine lw_op Z Z Z (ow_move Z Z (lw_op Z Z Z (ow_extract Z Z Z (lw_op Z Z Z (ow_extract Z Z Z (lw_op Z Z Z (ow_assign Z Z (lw_op Z Z Z (ow_assign Z Z (lw_nil (ew_then (cw_seq (cw_seq (cw_region (lw_op Z Z Z (ow_move Z Z (lw_op Z Z Z (ow_not Z Z (lw_op Z Z Z (ow_move Z Z ?_))))))))))))))))))))
      replace hb6 := cond_some hb6
      rcases hb6 with ⟨hc4, hb6⟩ | ⟨hc4, hb6⟩
      ·
       obtain rfl := hbb3.trans hc4
       refine lw_on Z Z Z Z Z Z (ow_move Z Z (lw_on Z Z Z Z Z Z (ow_lenOwn Z Z hr3 Tryd.underlying157 (lw_on Z Z Z Z Z Z (ow_move Z Z (lw_on Z Z Z Z Z Z (ow_len Z Z hv13 Tryd.underlying157 Z (lw_on Z Z Z Z Z Z (ow_add Z Z Z (lw_on Z Z Z Z Z Z (ow_gtr Z Z Z fun bb4 hbb4 => lw_op Z Z Z (ow_pickF Z Z Z (lw_nil (ew_then ?_))))))))))))))
       replace hb6 := cond_some hb6
       rcases hb6 with ⟨hc5, hb6⟩ | ⟨hc5, hb6⟩
       ·
        obtain rfl := hbb4.trans hc5
        refine cw_true Z (cw_seq (cw_region (lw_op Z Z Z (ow_assign Z Z (lw_op Z Z Z (ow_assign Z Z (lw_nil (ew_then (cw_ret (ew_thenR (ew_blockR (ew_thenR (ew_thenR (ew_blockR (ew_brkR (ew_thenR (ew_blockR (ew_thenR (ew_thenR (ew_blockR (ew_brkR (ew_thenR ?_))))))))))))))))))))))
        have e1 := hR2 _ (sj hb6).symm
        subst e1
        have e2 := hR1 _ (sj hb4).symm
        subst e2
        obtain rfl := sj h
        exact ew_ret (res2 Z (.tmp Z) (.tmp Z)) ⟨_, Z, ⟨_, _, Z, (VRep.mono hC8.back (vslice_nil (R := (RArr 4 (RSlice RSpan))) (w := w8) (M := M2))), ((vbool _))⟩, hC8.bx⟩
       ·
        obtain rfl := hbb4.trans hc5
        refine cw_false Z (cw_skip (ew_then (cw_region (lw_op Z Z Z (ow_move Z Z (lw_op Z Z Z (ow_move Z Z ?_)))))))
        replace hb6 := bind_some hb6
        obtain ⟨z1, hz1, hb6⟩ := hb6
        refine lw_op Z Z Z (ow_append (R := (RArr 4 (RSlice RSpan))) Z Z Z Z Tryd.underlying157 hi131 hz131 hs131 hy131 Z Z Z Z hr3 hv13 hz1 hC8 fun v15 w9 M3 hr4 hb9 hl9 hC9 hM1 hat1 => lw_op Z Z Z (ow_assign Z Z (lw_nil (ew_blockN (ew_then (cw_region (lw_op Z Z Z (ow_add Z Z Z (lw_op Z Z Z (ow_move Z Z (lw_nil ?_)))))))))))
        have lz3 := (((hl6.trans hl7).trans hl8).trans hl9)
        exact ew_nxt (z1, (W (k2 + 1))) hb6 fun a ha => ⟨M3, v15, (ha.sub ⟨Z, Z, Z, Z, Z, Z, Z, Z, Zt⟩), lz3, hC9, hr4⟩
      ·
       obtain rfl := hbb3.trans hc4
       refine lw_off Z Z Z Z Z Z (lw_off Z Z Z Z Z Z (lw_off Z Z Z Z Z Z (lw_off Z Z Z Z Z Z (lw_off Z Z Z Z Z Z (lw_off Z Z Z Z Z Z (lw_op Z Z Z (ow_pickT Z Z Z (lw_nil (ew_then (cw_true Z (cw_seq (cw_region (lw_op Z Z Z (ow_assign Z Z (lw_op Z Z Z (ow_assign Z Z (lw_nil (ew_then (cw_ret (ew_thenR (ew_blockR (ew_thenR (ew_thenR (ew_blockR (ew_brkR (ew_thenR (ew_blockR ?_)))))))))))))))))))))))))))
       refine ew_thenR (ew_thenR (ew_blockR (ew_brkR (ew_thenR ?_))))
       have e3 := hR2 _ (sj hb6).symm
       subst e3
       have e4 := hR1 _ (sj hb4).symm
       subst e4
       obtain rfl := sj h
       exact ew_ret (res2 Z (.tmp Z) (.tmp Z)) ⟨_, Z, ⟨_, _, Z, (VRep.mono hC8.back (vslice_nil (R := (RArr 4 (RSlice RSpan))) (w := w8) (M := M2))), ((vbool _))⟩, hC8.bx⟩
     ·
      obtain rfl := hbb2.trans hc3
      exact cw_false Z (cw_exit (ew_thenX (ew_thenX (ew_blockX (ew_brk (y2, k2) hb6 fun a ha => ⟨M2, v7, (ha.sub ⟨Z, Z, Z, Z, Z, Z, Z, Z, Zt⟩), hl6, hC6, hw3⟩)))))
    ·
     rintro ⟨y3, k3⟩ a w10 hlr3 ⟨M4, v16, hF3, hl10, hC10, hw4⟩
     subst hlr3
     refine ew_at (E := [(8, (.pointer (some p4))), (9, v16), (18, v1p), (19, (Zv (a_region.length : Int))), (20, (Zv k1)), (24, v4), (25, (Zv (y1.length : Int))), (26, (Zv k3))]) hF3 (ew_then (cw_seq (cw_region (lw_op Z Z Z (ow_move Z Z (lw_op Z Z Z (ow_assign Z Z (lw_nil (ew_then (cw_seq (cw_region (lw_op Z Z Z (ow_move Z Z (lw_op Z Z Z (ow_lenOwn Z Z hw4 Tryd.underlying157 (lw_op Z Z Z (ow_eqlI Z Z Z fun bb5 hbb5 => lw_nil (ew_then ?_))))))))))))))))))
     replace hb4 := cond_some hb4
     rcases hb4 with ⟨hc6, hb4⟩ | ⟨hc6, hb4⟩
     ·
      obtain rfl := hbb5.trans hc6
      refine cw_true Z (cw_exit (ew_blockO Z (ew_thenX (ew_thenX (ew_blockX ?_)))))
      have hw5 := hw4.freezeDel
      have hC11 := hw4.cxDel hC10 (fun _ e => e.elim) hO
      have hl11 := Le.del w10 M4 v16
      have lz4 := (((hl4.trans hl5).trans hl10).trans hl11)
      exact ew_brk (y3, k1) hb4 fun a ha => ⟨(Del v16 M4), v16, (ha.sub ⟨Z, Z, Z, Z, Zt⟩), lz4, hC11, hw5⟩
     ·
      obtain rfl := hbb5.trans hc6
      refine cw_false Z (cw_skip (ew_blockN (ew_then (cw_region (lw_op Z Z Z (ow_add Z Z Z (lw_op Z Z Z (ow_move Z Z (lw_nil ?_)))))))))
      have hw6 := hw4.freezeDel
      have hC12 := hw4.cxDel hC10 (fun _ e => e.elim) hO
      have hl12 := Le.del w10 M4 v16
      have lz5 := (((hl4.trans hl5).trans hl10).trans hl12)
      exact ew_nxt (y3, (W (k1 + 1))) hb4 fun a ha => ⟨(Del v16 M4), v16, (ha.sub ⟨Z, Z, Z, Z, Zt⟩), lz5, hC12, hw6⟩
   ·
    obtain rfl := hbb1.trans hc2
    exact cw_false Z (cw_exit (ew_thenX (ew_thenX (ew_blockX (ew_brk (y1, k1) hb4 fun a ha => ⟨M1, v4, (ha.sub ⟨Z, Z, Z, Z, Zt⟩), hl4, hC4, hw2⟩)))))
  ·
   rintro ⟨y4, k4⟩ a w11 hlr4 ⟨M5, v18, hF4, hl13, hC13, hw7⟩
   subst hlr4
   refine ew_at (E := [(6, v18), (18, v1p), (19, (Zv (a_region.length : Int))), (20, (Zv k4))]) hF4 (ew_then (cw_seq (cw_region (lw_op Z Z Z (ow_move Z Z (lw_op Z Z Z (ow_assign Z Z (lw_op Z Z Z (ow_assign Z Z (lw_nil (ew_then (cw_ret ?_))))))))))))
   obtain rfl := sj h
   exact ew_ret (res2 Z (.tmp Z) (.tmp Z)) ⟨_, Z, ⟨_, _, Z, (VRep.mono hC13.back hw7), ((vbool _))⟩, hC13.bx⟩

theorem w_impl_sidesOf {w : World} {M : Nat → Prop} (_hG : ARep (RArr 4 RShape) w M shapes ⟨0, 0, none⟩) (hO : ∀ b, M b → b < w.heap.size) {v0p : Value} {a_b : Box} (h0 : VRep RBox w M a_b v0p) {r : (List (List Span))} (h : F.impl_sidesOf a_b = some r) :
  Calls Tryd.prog 91 [v0p].toArray w fun e w' => ∃ v, e = .returned v ∧ VRep (RArr 4 (RSlice RSpan)) w' M r v ∧ BX No w w' := by
 have hC : Cx No w M w M := Cx.start hO (fun _ e => e.elim)
 clear _hG
 refine walk (N := 7) Tryd.func91 Z Tryd.ntmps91 Z (cw_seq (cw_region (lw_op Z Z Z (ow_box (R := RBox) Z Z h0 hC fun p1 w1 hp1 hb1 hl1 hC1 => lw_op Z Z Z (ow_alloc Z (Tryd.zeroValue131 _) hC1 fun g1 w2 hg1 hg2 ho1 hb2 hl2 hC2 => ?_)))))
 have hm1 : (Add g1 M) g1 := .inl Z
 have ho2 : OwnA (RArr 4 (RSlice RSpan)) w2 (Add g1 M) g1 131 [([] : List Span), ([] : List Span), ([] : List Span), ([] : List Span)] := OwnA.of ho1 ⟨Z, ⟨_, _, Z, (vslice_nil (R := RSpan) (w := w2) (M := (Add g1 M))).cells, _, _, Z, (vslice_nil (R := RSpan) (w := w2) (M := (Add g1 M))).cells, _, _, Z, (vslice_nil (R := RSpan) (w := w2) (M := (Add g1 M))).cells, _, _, Z, (vslice_nil (R := RSpan) (w := w2) (M := (Add g1 M))).cells, Z⟩⟩
 refine lw_nil (ew_then (cw_seq (cw_region (lw_op Z Z Z (ow_fieldAddr Z Z Tryd.underlying48 Z (Tryd.sizeOf46 _) (lw_op Z Z Z (ow_load (R := (RSlice (RSlice RSpan))) Z Z (ARep.mono hl2 (hp1.fld fld_Box_Sides)) (Tryd.sizeOf46 _) (Tryd.isAgg46 _) fun v1 hv1 => ?_)))))))
 replace h := bind_some h
 obtain ⟨y1, hy1, h⟩ := h
 refine lw_op Z Z Z (ow_s2ap Z Z hv1 Tryd.underlying131 (arrF_some hy1).2 (by decide) fun p2 hp2 => ?_)
 rw [← (arrF_some hy1).1] at hp2
 refine lw_op Z Z Z (ow_load (R := (RArr 4 (RSlice RSpan))) Z Z hp2 (Tryd.sizeOf131 _) (Tryd.isAgg131 _) fun v2 hv2 => ?_)
 obtain ⟨cs1, h1, h2⟩ := ho2.own
 refine lw_op0 Z Z (ow_storeA (X := No) (R := (RArr 4 (RSlice RSpan))) Z Z Z Z h1 h2 (Tryd.sizeOf131 _) hv2 hm1 (.inl hg2) hC2 fun w3 ho3 hb3 hl3 hC3 => lw_nil (ew_then (cw_ret ?_)))
 obtain rfl := sj h
 obtain ⟨v3, hq1, hw1⟩ := resA ho3 (Tryd.sizeOf131 _) (Tryd.isAgg131 _) rfl
 exact ew_ret (res1 Z (.cell Z hq1)) ⟨_, Z, (hw1.mono hC3.back), hC3.bx⟩

theorem wt_impl_RegionLess {w : World} {M : Nat → Prop} (hG : ARep (RArr 4 RShape) w M shapes ⟨0, 0, none⟩) (hO : ∀ b, M b → b < w.heap.size) {Y : Nat → Prop} (hY : ∀ b, w.heap.size ≤ b → Y b) {v0p : Value} {a_b : Box} (h0 : VRep RBox w M a_b v0p) {v1p : Value} {a_list : List Box} (h1 : VRep (RSlice RBox) w M a_list v1p) {r : (List Box) × Bool} (h : F.impl_RegionLess a_b a_list = some r) :
    Calls Tryd.prog 67 [v0p, v1p].toArray w fun e w' => ∃ v, e = .returned v ∧ (∃ u0 u1, v = .tuple #[u0, u1] ∧ VRep (RIn Y (RBoxSS 120)) w' M r.1 u0 ∧ VRep RBool w' M r.2 u1) ∧ BX No w w' := by
  obtain ⟨i131, hi131, hz131, hs131, hy131⟩ := info131
  have hC : Cx No w M w M := Cx.start hO (fun _ e => e.elim)
  refine walk (N := 45) Tryd.func67 rfl Tryd.ntmps67 rfl ?_
  refine cw_seq ?_
  refine cw_region ?_
  refine lw_op rfl rfl rfl (ow_box (R := RBox) rfl rfl h0 hC fun p1 w1 hp1 hb1 hl1 hC1 => ?_)
  refine lw_op rfl rfl rfl (ow_assign rfl rfl ?_)
  refine lw_op rfl rfl rfl (ow_assign rfl rfl ?_)
  refine lw_nil ?_
  refine ew_then ?_
  refine cw_seq ?_
  refine cw_seq ?_
  refine cw_region ?_
  refine lw_op rfl rfl rfl (ow_load (R := RBox) rfl rfl hp1 (Tryd.sizeOf48 _) (Tryd.isAgg48 _) fun v1 hv1 => ?_)
  replace h := bind_some h
  obtain ⟨x1, hx1, h⟩ := h
  refine lw_op rfl rfl rfl (ow_call rfl rfl Tryd.call90 (w_impl_BoxValid (hG.mono hl1) hC1.old hv1 hx1) fun v2 w2 hv2 => ?_)
  obtain ⟨hv2, hb2⟩ := hv2
  have hl2 := Le.no M hb2
  have hC2 := hC1.no hb2
  obtain rfl := vbool_eq hv2
  refine lw_op rfl rfl rfl (ow_not rfl rfl ?_)
  refine lw_op rfl rfl rfl (ow_move rfl rfl ?_)
  replace h := cond_some h
  rcases h with ⟨hc1, h⟩ | ⟨hc1, h⟩
  · subst hc1
    refine lw_on rfl rfl rfl rfl rfl rfl (ow_move rfl rfl ?_)
    replace h := bind_some h
    obtain ⟨x2, hx2, h⟩ := h
    refine lw_on rfl rfl rfl rfl rfl rfl (ow_call rfl rfl Tryd.call129 (w_impl_RegionValid (hG.mono (hl1.trans hl2)) hC2.old (VRep.mono (hl1.trans hl2) h1) hx2) fun v3 w3 hv3 => ?_)
    obtain ⟨hv3, hb3⟩ := hv3
    have hl3 := Le.no M hb3
    have hC3 := hC2.no hb3
    obtain rfl := vbool_eq hv3
    refine lw_on rfl rfl rfl rfl rfl rfl (ow_not rfl rfl ?_)
    refine lw_op rfl rfl rfl (ow_pickF rfl rfl rfl ?_)
    refine lw_nil ?_
    refine ew_then ?_
    replace h := cond_some h
    rcases h with ⟨hc2, h⟩ | ⟨hc2, h⟩
    · subst hc2
      refine cw_false rfl ?_
      refine cw_skip ?_
      refine ew_then ?_
      refine cw_seq ?_
      refine cw_region ?_
      refine lw_op rfl rfl rfl (ow_move rfl rfl ?_)
      have lz1 := ((hl1.trans hl2).trans hl3)
      refine lw_op rfl rfl rfl (ow_len rfl rfl (VRep.mono lz1 h1) Tryd.underlying64 rfl ?_)
      replace h := bind_some h
      obtain ⟨u1, hu1, h⟩ := h
      refine lw_op rfl rfl rfl (ow_make0 (α := List (List Span)) (R := (RArr 4 (RSlice RSpan))) rfl rfl rfl Tryd.underlying157 hi131 hz131 hs131 hy131 rfl rfl (capF_some hu1) hC3 fun v4 w4 M1 hr1 hb4 hl4 hC4 hM1 hat1 => ?_)
      refine lw_op rfl rfl rfl (ow_assign rfl rfl ?_)
      refine lw_nil ?_
      refine ew_then ?_
      refine cw_seq ?_
      refine cw_seq ?_
      refine cw_region ?_
      refine lw_op rfl rfl rfl (ow_move rfl rfl ?_)
      refine lw_op rfl rfl rfl (ow_len rfl rfl (VRep.mono (lz1.trans hl4) h1) Tryd.underlying64 rfl ?_)
      refine lw_op rfl rfl rfl (ow_move rfl rfl ?_)
      refine lw_nil ?_
      refine ew_then ?_
      replace h := bind_some h
      obtain ⟨lr1, hlr1, h⟩ := h
      refine cw_for hlr1 (fun s a w' => ∃ (M' : Nat → Prop) (v0c : Value), Fits 45 [(2, (.pointer (some p1))), (6, v0c), (22, v1p), (23, (.int .i64 (a_list.length : Int))), (24, (.int .i64 s.2))] a ∧ Le w4 M1 w' M' ∧ Cx No w M w' M' ∧ OwnRow (RArr 4 (RSlice RSpan)) w.heap.size 131 w' M' s.1 v0c) ?_ ?_ ?_
      · intro a ha
        exact ⟨M1, v4, ha.sub ⟨rfl, rfl, rfl, rfl, rfl, trivial⟩, Le.refl _ _, hC4, hr1⟩
      · rintro ⟨y1, k1⟩ a w5 sr1 ⟨M2, v5, hF1, hl5, hC5, hw1⟩ hb5 hR1
        refine cw_at (E := [(2, (.pointer (some p1))), (6, v5), (22, v1p), (23, (.int .i64 (a_list.length : Int))), (24, (.int .i64 k1))]) hF1 ?_
        refine cw_seq ?_
        refine cw_region ?_
        refine lw_op rfl rfl rfl (ow_lss rfl rfl rfl fun bb1 hbb1 => ?_)
        refine lw_nil ?_
        refine ew_then ?_
        refine cw_seq ?_
        replace hb5 := cond_some hb5
        rcases hb5 with ⟨hc3, hb5⟩ | ⟨hc3, hb5⟩
        · obtain rfl := hbb1.trans hc3
          refine cw_true rfl ?_
          refine cw_skip ?_
          refine ew_then ?_
          refine cw_seq ?_
          refine cw_block ?_
          refine cw_seq ?_
          refine cw_region ?_
          replace hb5 := bind_some hb5
          obtain ⟨x3, hx3, hb5⟩ := hb5
          have lz2 := ((lz1.trans hl4).trans hl5)
          refine lw_op rfl rfl rfl (ow_indexSlice (R := RBox) rfl rfl rfl (VRep.mono lz2 h1) Tryd.underlying64 (Tryd.sizeOf48 _) hx3 fun p2 hp2 => ?_)
          refine lw_op rfl rfl rfl (ow_load (R := RBox) rfl rfl hp2 (Tryd.sizeOf48 _) (Tryd.isAgg48 _) fun v7 hv7 => ?_)
          refine lw_allocStore (R := RBox) rfl rfl rfl rfl rfl rfl rfl Tryd.zeroValue48 Tryd.sizeOf48 rfl rfl rfl (by simp) hv7 hC5 fun p3 w6 hp3 hb6 hl6 hC6 => ?_
          have hr2 := hw1.no hb6
          refine lw_nil ?_
          refine ew_then ?_
          refine cw_region ?_
          refine lw_op rfl rfl rfl (ow_move rfl rfl ?_)
          refine lw_op rfl rfl rfl (ow_load (R := RBox) rfl rfl hp3 (Tryd.sizeOf48 _) (Tryd.isAgg48 _) fun v8 hv8 => ?_)
          replace hb5 := bind_some hb5
          obtain ⟨x4, hx4, hb5⟩ := hb5
          refine lw_op rfl rfl rfl (ow_call rfl rfl Tryd.call91 (w_impl_sidesOf (hG.mono (lz2.trans hl6)) hC6.old hv8 hx4) fun v9 w7 hv9 => ?_)
          obtain ⟨hv9, hb7⟩ := hv9
          have hl7 := Le.no M2 hb7
          have hC7 := hC6.no hb7
          have hr3 := hr2.no hb7
          obtain ⟨cc1, cc2, cc3, cc4, rfl⟩ := open_arr4 hv9 rfl
          refine lw_op rfl rfl rfl (ow_buildSlice (R := (RArr 4 (RSlice RSpan))) (xs := [x4]) (cs := #[cc1, cc2, cc3, cc4]) (e := 131) rfl rfl (by kernel_rfl) rfl rfl ⟨_, _, rfl, hv9.cells, rfl⟩ hC7 fun p4 w8 hw2 hb8 hl8 hC8 => ?_)
          have hr4 := hr3.no hb8
          replace hb5 := bind_some hb5
          obtain ⟨z1, hz1, hb5⟩ := hb5
          refine lw_op rfl rfl rfl (ow_append (R := (RArr 4 (RSlice RSpan))) rfl rfl rfl rfl Tryd.underlying157 hi131 hz131 hs131 hy131 rfl rfl rfl rfl hr4 hw2 hz1 hC8 fun v10 w9 M3 hr5 hb9 hl9 hC9 hM2 hat2 => ?_)
          refine lw_op rfl rfl rfl (ow_assign rfl rfl ?_)
          refine lw_nil ?_
          refine ew_blockN ?_
          refine ew_then ?_
          refine cw_region ?_
          refine lw_op rfl rfl rfl (ow_add rfl rfl rfl ?_)
          refine lw_op rfl rfl rfl (ow_move rfl rfl ?_)
          refine lw_nil ?_
          have lz3 := ((((hl5.trans hl6).trans hl7).trans hl8).trans hl9)
          refine ew_nxt (z1, (W (k1 + 1))) hb5 fun a ha => ⟨M3, v10, ?_, lz3, hC9, hr5⟩
          exact ha.sub ⟨rfl, rfl, rfl, rfl, rfl, trivial⟩
        · obtain rfl := hbb1.trans hc3
          refine cw_false rfl ?_
          refine cw_exit ?_
          refine ew_thenX ?_
          refine ew_thenX ?_
          refine ew_blockX ?_
          refine ew_brk (y1, k1) hb5 fun a ha => ⟨M2, v5, ?_, hl5, hC5, hw1⟩
          exact ha.sub ⟨rfl, rfl, rfl, rfl, rfl, trivial⟩
      · rintro ⟨y2, k2⟩ a w10 hlr2 ⟨M4, v11, hF2, hl10, hC10, hw3⟩
        subst hlr2
        refine ew_at (E := [(2, (.pointer (some p1))), (6, v11), (22, v1p), (23, (.int .i64 (a_list.length : Int))), (24, (.int .i64 k2))]) hF2 ?_
        refine ew_then ?_
        refine cw_seq ?_
        refine cw_region ?_
        have lz4 := (((hl2.trans hl3).trans hl4).trans hl10)
        refine lw_op rfl rfl rfl (ow_load (R := RBox) rfl rfl (ARep.mono lz4 hp1) (Tryd.sizeOf48 _) (Tryd.isAgg48 _) fun v13 hv13 => ?_)
        replace h := bind_some h
        obtain ⟨x5, hx5, h⟩ := h
        have lz5 := ((lz1.trans hl4).trans hl10)
        refine lw_op rfl rfl rfl (ow_call rfl rfl Tryd.call91 (w_impl_sidesOf (hG.mono lz5) hC10.old hv13 hx5) fun v14 w11 hv14 => ?_)
        obtain ⟨hv14, hb10⟩ := hv14
        have hl11 := Le.no M4 hb10
        have hC11 := hC10.no hb10
        have hr6 := hw3.no hb10
        refine lw_op rfl rfl rfl (ow_move rfl rfl ?_)
        have hw4 := hr6.freezeDel
        have hC12 := hr6.cxDel hC11 (fun _ e => e.elim) hO
        have hl12 := Le.del w11 M4 v11
        replace h := bind_some h
        obtain ⟨x6, hx6, h⟩ := h
        have lz6 := ((lz5.trans hl11).trans hl12)
        refine lw_op rfl rfl rfl (ow_call rfl rfl Tryd.call130 (w_impl_sides_lessRegion (hG.mono lz6) hC12.old (VRep.mono hl12 hv14) hw4 hx6) fun v15 w12 hv15 => ?_)
        obtain ⟨⟨v16, v17, rfl, hv16, hv17⟩, hb11⟩ := hv15
        have hl13 := Le.no (Del v11 M4) hb11
        have hC13 := hC12.no hb11
        obtain ⟨bb2, hbb2, rfl⟩ := vbool_ex hv17
        refine lw_op rfl rfl rfl (ow_move rfl rfl ?_)
        refine lw_op rfl rfl rfl (ow_extract rfl rfl rfl ?_)
        refine lw_op rfl rfl rfl (ow_extract rfl rfl rfl ?_)
        refine lw_op rfl rfl rfl (ow_assign rfl rfl ?_)
        refine lw_op rfl rfl rfl (ow_assign rfl rfl ?_)
        refine lw_nil ?_
        refine ew_then ?_
        refine cw_seq ?_
        refine cw_seq ?_
        refine cw_region ?_
        refine lw_op rfl rfl rfl (ow_move rfl rfl ?_)
        refine lw_op rfl rfl rfl (ow_not rfl rfl ?_)
        refine lw_nil ?_
        refine ew_then ?_
        replace h := cond_some h
        rcases h with ⟨hc4, h⟩ | ⟨hc4, h⟩
        · obtain rfl := hbb2.trans hc4
          refine cw_false rfl ?_
          refine cw_skip ?_
          refine ew_then ?_
          refine cw_seq ?_
          refine cw_region ?_
          refine lw_op rfl rfl rfl (ow_move rfl rfl ?_)
          replace h := bind_some h
          obtain ⟨x7, hx7, h⟩ := h
          refine lw_op rfl rfl rfl (ow_call rfl rfl Tryd.call113 (wt_impl_boxesOf (hG.mono (lz6.trans hl13)) hC13.old (fun b hb => hY b (Nat.le_trans hC13.bx.size hb)) hv16 hx7) fun v18 w13 hv18 => ?_)
          obtain ⟨hv18, hb12⟩ := hv18
          have hl14 := Le.no (Del v11 M4) hb12
          have hC14 := hC13.no hb12
          refine lw_op rfl rfl rfl (ow_assign rfl rfl ?_)
          refine lw_op rfl rfl rfl (ow_assign rfl rfl ?_)
          refine lw_nil ?_
          refine ew_then ?_
          refine cw_ret ?_
          obtain rfl := Option.some.inj h
          exact ew_ret (res2 rfl (.tmp rfl) (.tmp rfl)) ⟨_, rfl, ⟨_, _, rfl, (VRep.mono hC14.back hv18), ((vbool _))⟩, hC14.bx⟩
        · obtain rfl := hbb2.trans hc4
          refine cw_true rfl ?_
          refine cw_seq ?_
          refine cw_region ?_
          refine lw_op rfl rfl rfl (ow_assign rfl rfl ?_)
          refine lw_op rfl rfl rfl (ow_assign rfl rfl ?_)
          refine lw_nil ?_
          refine ew_then ?_
          refine cw_ret ?_
          refine ew_thenR ?_
          obtain rfl := Option.some.inj h
          exact ew_ret (res2 rfl (.tmp rfl) (.tmp rfl)) ⟨_, rfl, ⟨_, _, rfl, (VRep.mono hC13.back (vsliceT_nil (Y := Y) (R := RBoxS 120) (w := w12) (M := (Del v11 M4)))), ((vbool _))⟩, hC13.bx⟩
    · subst hc2
      refine cw_true rfl ?_
      refine cw_seq ?_
      refine cw_region ?_
      refine lw_op rfl rfl rfl (ow_assign rfl rfl ?_)
      refine lw_op rfl rfl rfl (ow_assign rfl rfl ?_)
      refine lw_nil ?_
      refine ew_then ?_
      refine cw_ret ?_
      refine ew_thenR ?_
      obtain rfl := Option.some.inj h
      exact ew_ret (res2 rfl (.tmp rfl) (.tmp rfl)) ⟨_, rfl, ⟨_, _, rfl, (VRep.mono hC3.back (vsliceT_nil (Y := Y) (R := RBoxS 120) (w := w3) (M := M))), ((vbool _))⟩, hC3.bx⟩
  · subst hc1
    refine lw_off rfl rfl rfl rfl rfl rfl ?_
    refine lw_off rfl rfl rfl rfl rfl rfl ?_
    refine lw_off rfl rfl rfl rfl rfl rfl ?_
    refine lw_op rfl rfl rfl (ow_pickT rfl rfl rfl ?_)
    refine lw_nil ?_
    refine ew_then ?_
    refine cw_true rfl ?_
    refine cw_seq ?_
    refine cw_region ?_
    refine lw_op rfl rfl rfl (ow_assign rfl rfl ?_)
    refine lw_op rfl rfl rfl (ow_assign rfl rfl ?_)
    refine lw_nil ?_
    refine ew_then ?_
    refine cw_ret ?_
    refine ew_thenR ?_
    obtain rfl := Option.some.inj h
    exact ew_ret (res2 rfl (.tmp rfl) (.tmp rfl)) ⟨_, rfl, ⟨_, _, rfl, (VRep.mono hC2.back (vsliceT_nil (Y := Y) (R := RBoxS 120) (w := w2) (M := M))), ((vbool _))⟩, hC2.bx⟩


end Go.PF
