/- The walks; no condition. -/
import Derived.Test.YtadlmencjbangaaDoorProg
import Derived.Test.YtadlmencjbangaaDoorWk3
import Derived.Test.YtadlmencjbangaaDoorPFSeq
import Derived.Test.YtadlmencjbangaaDoorPFDrop
set_option maxRecDepth 100000
set_option maxHeartbeats 4000000
namespace Go.PF
open Go Go.RowKit Go.Proofs

theorem w_spec_l11Less {w : World} {M : Nat → Prop} (hG : ARep (RArr 4 RShape) w M shapes ⟨0, 0, none⟩) (hO : ∀ b, M b → b < w.heap.size) {v0p : Value} {a_b : Box} (h0 : VRep RBox w M a_b v0p) {v1p : Value} {a_list : List Box} (h1 : VRep (RSlice RBox) w M a_list v1p) {r : (List Box) × Bool} (h : F.spec_l11Less a_b a_list = some r) :
  Calls Tryd.prog 53 [v0p, v1p].toArray w fun e w' => ∃ v, e = .returned v ∧ (∃ u0 u1, v = .tuple #[u0, u1] ∧ VRep (RSlice RBox) w' M r.1 u0 ∧ VRep RBool w' M r.2 u1) ∧ BX No w w' := by
 obtain ⟨i25, hi25, hz25, hs25, hy25⟩ := info25
 have hC : Cx No w M w M := Cx.start hO (fun _ e => e.elim)
 refine walk (N := 48) Tryd.func53 Z Tryd.ntmps53 Z (cw_seq (Zr (Zo Z Z Z (ow_box (R := RBox) Z Z h0 hC fun p1 w1 hp1 hb1 hl1 hC1 => Zo Z Z Z (Za Z Z (Zo Z Z Z (Za Z Z (Zn (Ze (cw_seq (Zr (Zo Z Z Z (ow_buildSlice0 (R := RBox) (e := 25) Z (by kernel_rfl) hC1 fun p2 w2 M1 hr1 hb2 hl2 hC2 hM1 hat1 => Zo Z Z Z (Za Z Z (Zn (Ze (cw_seq (cw_seq (Zr (Zo Z Z Z (Zl (R := RBox) Z Z (ARep.mono hl2 hp1) (Tryd.sizeOf25 _) (Tryd.isAgg25 _) fun v1 hv1 => ?_)))))))))))))))))))))
 replace h := bind_some h
 obtain ⟨x1, hx1, h⟩ := h
 refine Zo Z Z Z (Zk Z Z Tryd.call72 (w_spec_l10Empty (hG.mono (hl1.trans hl2)) hC2.old hv1 hx1) fun v2 w3 hv2 => ?_)
 obtain ⟨hv2, hb3⟩ := hv2
 have hl3 := Le.no M1 hb3
 have hC3 := hC2.no hb3
 have hr2 := hr1.no hb3
 obtain rfl := vbool_eq hv2
 refine Zo Z Z Z (ow_not Z Z (Zn (Ze ?_)))
 replace h := Zc h
 rcases h with ⟨hc1, h⟩ | ⟨hc1, h⟩
 ·
  subst hc1
  refine Zu Z (cw_skip (Ze (cw_seq (cw_seq (Zr (Zo Z Z Z (Za Z Z (Zn (Ze ?_)))))))))
  replace h := bind_some h
  obtain ⟨lr1, hlr1, h⟩ := h
  refine cw_for hlr1 (fun s a w' => ∃ (M' : Nat → Prop) (v0c : Value), Fits 48 [(1, v1p), (6, v0c), (7, (.int .i64 s.2))] a ∧ Le w3 M1 w' M' ∧ Cx No w M w' M' ∧ VRep (RSlice RBox) w' M' s.1 v0c) ?_ ?_ ?_
  ·
   intro a ha
   exact ⟨M1, (.slice (some p2) 0 0), ha.sub ⟨Z, Z, Z, trivial⟩, Le.refl _ _, hC3, vslice_nil⟩
  ·
   rintro ⟨y1, k1⟩ a w4 sr1 ⟨M2, v3, hF1, hl4, hC4, hw1⟩ hb4 hR1
   refine cw_at (E := [(1, v1p), (6, v3), (7, (.int .i64 k1))]) hF1 (cw_seq (cw_seq (Zr (Zo Z Z Z (Zm Z Z (Zo Z Z Z (Zm Z Z ?_)))))))
   have lz1 := (((hl1.trans hl2).trans hl3).trans hl4)
   refine Zo Z Z Z (ow_len Z Z (VRep.mono lz1 h1) Tryd.underlying28 Z (Zo Z Z Z (ow_lss Z Z Z fun bb1 hbb1 => Zn (Ze ?_))))
   replace hb4 := Zc hb4
   rcases hb4 with ⟨hc2, hb4⟩ | ⟨hc2, hb4⟩
   ·
    obtain rfl := hbb1.trans hc2
    refine Zt Z (cw_skip (Ze (cw_seq (cw_block (cw_seq (Zr (Zo Z Z Z (ow_buildSlice0 (R := RBox) (e := 25) Z (by kernel_rfl) hC4 fun p3 w5 M3 hr3 hb5 hl5 hC5 hM2 hat2 => Zo Z Z Z (Za Z Z (Zn (Ze (cw_seq (cw_seq (Zr (Zo Z Z Z (Za Z Z (Zn (Ze ?_))))))))))))))))))
    replace hb4 := bind_some hb4
    obtain ⟨lr2, hlr2, hb4⟩ := hb4
    refine cw_for hlr2 (fun s a w' => ∃ (M' : Nat → Prop) (v0c : Value), Fits 48 [(1, v1p), (6, v3), (7, (.int .i64 k1)), (8, v0c), (9, (.int .i64 s.2))] a ∧ Le w5 M3 w' M' ∧ Cx No w M w' M' ∧ OwnRow RBox w.heap.size 25 w' M' s.1 v0c) ?_ ?_ ?_
    ·
     intro a ha
     exact ⟨M3, (.slice (some p3) 0 0), ha.sub ⟨Z, Z, Z, Z, Z, trivial⟩, Le.refl _ _, hC5, hr3⟩
    ·
     rintro ⟨y2, k2⟩ a w6 sr2 ⟨M4, v5, hF2, hl6, hC6, hw2⟩ hb6 hR2
     refine cw_at (E := [(1, v1p), (6, v3), (7, (.int .i64 k1)), (8, v5), (9, (.int .i64 k2))]) hF2 (cw_seq (cw_seq (Zr (Zo Z Z Z (Zm Z Z (Zo Z Z Z (Zm Z Z (Zo Z Z Z (ow_len Z Z (VRep.mono (hl5.trans hl6) hw1) Tryd.underlying28 Z (Zo Z Z Z (ow_lss Z Z Z fun bb2 hbb2 => Zn (Ze ?_))))))))))))
     replace hb6 := Zc hb6
     rcases hb6 with ⟨hc3, hb6⟩ | ⟨hc3, hb6⟩
     ·
      obtain rfl := hbb2.trans hc3
      refine Zt Z (cw_skip (Ze (cw_seq (cw_block ?_))))
      replace hb6 := bind_some hb6
      obtain ⟨x2, hx2, hb6⟩ := hb6
      replace hb6 := bind_some hb6
      obtain ⟨x3, hx3, hb6⟩ := hb6
      replace hb6 := bind_some hb6
      obtain ⟨x4, hx4, hb6⟩ := hb6
      have lz2 := ((lz1.trans hl5).trans hl6)
      have lz3 := (hl5.trans hl6)
      refine cw_sub (E' := [(1, v1p), (6, v3), (7, (.int .i64 k1)), (8, v5), (9, (.int .i64 k2))]) ⟨Z, Z, Z, Z, Z, trivial⟩ (cw_drawQ 10 [PEq v5, PV (RSlice RBox) M4 y1, PEq (.int .i64 k2), PA RBox M4 x2, PV RBox M4 x2, PV (RSlice RBox) M4 a_list, PEq (.int .i64 k1), PA RBox M4 x3, PV RBox M4 x3, PV (RSlice RBox) M4 x4] (by kernel_rfl) Z (by kernel_rfl) ⟨Zq, PV.mono _ _ _, Zq, PA.mono _ _ _, PV.mono _ _ _, PV.mono _ _ _, Zq, PA.mono _ _ _, PV.mono _ _ _, PV.mono _ _ _, trivial⟩ ⟨?_, ?_, ?_, ?_, ?_, ?_, ?_, ?_, ?_, ?_, trivial⟩ ?_)
      ·
       intro w8 D hS1 hd1
       exact Zs (E' := [(8, v5)]) ⟨Z, trivial⟩ (Zp Z (Zm Z Z Zb))
      ·
       intro w9 D hS2 hd2
       have hl9 := Le.no M4 hS2
       exact Zs (E' := [(6, v3)]) ⟨Z, trivial⟩ (Zp Z (Zm Z Z ⟨BX.refl _ _, (VRep.mono (lz3.trans hl9) hw1)⟩))
      ·
       intro w10 D hS3 hd3
       exact Zs (E' := [(9, (.int .i64 k2))]) ⟨Z, trivial⟩ (Zp Z (Zm Z Z Zb))
      ·
       intro w11 D hS4 hd4
       have d1 : PV (RSlice RBox) M4 y1 (D 1) w11 := dpA hd4 1 Z
       generalize hq1 : (D 1) = v10 at d1
       exact Zs (E' := [(32, v10), (33, (.int .i64 k2))]) ⟨(congrArg some hq1), (dpE hd4 2 Z Z), trivial⟩ (Zp Z (Zx (R := RBox) Z Z Z d1 Tryd.underlying28 (Tryd.sizeOf25 _) hx2 fun p6 hp6 => ⟨BX.refl _ _, ⟨_, Z, hp6⟩⟩))
      ·
       intro w12 D hS5 hd5
       have d3 : PA RBox M4 x2 (D 3) w12 := dpA hd5 3 Z
       obtain ⟨p7, e1, ha1⟩ := d3
       exact Zs (E' := [(34, (.pointer (some p7)))]) ⟨(congrArg some e1), trivial⟩ (Zp Z (Zl (R := RBox) Z Z ha1 (Tryd.sizeOf25 _) (Tryd.isAgg25 _) fun v11 hv11 => ⟨BX.refl _ _, hv11⟩))
      ·
       intro w13 D hS6 hd6
       have hl13 := Le.no M4 hS6
       exact Zs (E' := [(1, v1p)]) ⟨Z, trivial⟩ (Zp Z (Zm Z Z ⟨BX.refl _ _, (VRep.mono (lz2.trans hl13) h1)⟩))
      ·
       intro w14 D hS7 hd7
       exact Zs (E' := [(7, (.int .i64 k1))]) ⟨Z, trivial⟩ (Zp Z (Zm Z Z Zb))
      ·
       intro w15 D hS8 hd8
       have d4 : PV (RSlice RBox) M4 a_list (D 5) w15 := dpA hd8 5 Z
       generalize hq2 : (D 5) = v12 at d4
       exact Zs (E' := [(36, v12), (37, (.int .i64 k1))]) ⟨(congrArg some hq2), (dpE hd8 6 Z Z), trivial⟩ (Zp Z (Zx (R := RBox) Z Z Z d4 Tryd.underlying28 (Tryd.sizeOf25 _) hx3 fun p8 hp8 => ⟨BX.refl _ _, ⟨_, Z, hp8⟩⟩))
      ·
       intro w16 D hS9 hd9
       have d6 : PA RBox M4 x3 (D 7) w16 := dpA hd9 7 Z
       obtain ⟨p9, e2, ha2⟩ := d6
       exact Zs (E' := [(38, (.pointer (some p9)))]) ⟨(congrArg some e2), trivial⟩ (Zp Z (Zl (R := RBox) Z Z ha2 (Tryd.sizeOf25 _) (Tryd.isAgg25 _) fun v13 hv13 => ⟨BX.refl _ _, hv13⟩))
      ·
       intro w17 D hS10 hd10
       have hl17 := Le.no M4 hS10
       have hC17 := hC6.no hS10
       have d7 : PV RBox M4 x2 (D 4) w17 := dpA hd10 4 Z
       have d8 : PV RBox M4 x3 (D 8) w17 := dpA hd10 8 Z
       generalize hq3 : (D 4) = v14 at d7
       generalize hq4 : (D 8) = v15 at d8
       refine Zs (E' := [(35, v14), (39, v15)]) ⟨(congrArg some hq3), (congrArg some hq4), trivial⟩ (Zp Z (Zk Z Z Tryd.call37 (w_spec_l11Cut (hG.mono (lz2.trans hl17)) hC17.old d7 d8 hx4) fun v16 w18 hv16 => ?_))
       obtain ⟨hv16, hb8⟩ := hv16
       exact ⟨hb8, hv16⟩
      ·
       intro w19 D hS11 hd11
       have d18 : PV (RSlice RBox) M4 x4 (D 9) w19 := dpA hd11 9 Z
       have hl19 := Le.no M4 hS11
       have hC19 := hC6.no hS11
       have hr16 := hw2.no hS11
       generalize hq5 : (D 9) = v17 at d18
       refine lw_sub (E' := [(31, v5), (40, v17), (1, v1p), (6, v3), (7, (.int .i64 k1)), (8, v5), (9, (.int .i64 k2))]) ⟨(dpE hd11 0 Z Z), (congrArg some hq5), Z, Z, Z, Z, Z, trivial⟩ ?_
       replace hb6 := bind_some hb6
       obtain ⟨z1, hz1, hb6⟩ := hb6
       refine Zo Z Z Z (ow_append (R := RBox) Z Z Z Z Tryd.underlying28 hi25 hz25 hs25 hy25 Z Z Z Z hr16 d18 hz1 hC19 fun v18 w20 M5 hr17 hb9 hl20 hC20 hM3 hat3 => Zo Z Z Z (Za Z Z (Zn (ew_blockN (Ze (Zr (Zo Z Z Z (Zm Z Z (Zo Z Z Z (ow_add Z Z Z (Zo Z Z Z (Za Z Z (Zn ?_)))))))))))))
       have lz4 := ((hl6.trans hl19).trans hl20)
       exact ew_nxt (z1, (W (k2 + 1))) hb6 fun a ha => ⟨M5, v18, (ha.sub ⟨Z, Z, Z, Z, Z, trivial⟩), lz4, hC20, hr17⟩
     ·
      obtain rfl := hbb2.trans hc3
      exact Zu Z (cw_exit (ew_thenX (ew_thenX (ew_blockX (ew_brk (y2, k2) hb6 fun a ha => ⟨M4, v5, (ha.sub ⟨Z, Z, Z, Z, Z, trivial⟩), hl6, hC6, hw2⟩)))))
    ·
     rintro ⟨y3, k3⟩ a w21 hlr3 ⟨M6, v19, hF3, hl21, hC21, hw3⟩
     subst hlr3
     refine ew_at (E := [(1, v1p), (6, v3), (7, (.int .i64 k1)), (8, v19), (9, (.int .i64 k3))]) hF3 (Ze (cw_seq (cw_seq (Zr (Zo Z Z Z (Zm Z Z ?_))))))
     have hw4 := hw3.freezeDel
     have hC22 := hw3.cxDel hC21 (fun _ e => e.elim) hO
     have hl22 := Le.del w21 M6 v19
     replace hb4 := bind_some hb4
     obtain ⟨x5, hx5, hb4⟩ := hb4
     have lz5 := (((lz1.trans hl5).trans hl21).trans hl22)
     refine Zo Z Z Z (Zk Z Z Tryd.call52 (w_spec_RegionValid (hG.mono lz5) hC22.old hw4 hx5) fun v21 w22 hv21 => ?_)
     obtain ⟨hv21, hb10⟩ := hv21
     have hl23 := Le.no (Del v19 M6) hb10
     have hC23 := hC22.no hb10
     obtain rfl := vbool_eq hv21
     refine Zo Z Z Z (ow_not Z Z (Zn (Ze ?_)))
     replace hb4 := Zc hb4
     rcases hb4 with ⟨hc4, hb4⟩ | ⟨hc4, hb4⟩
     ·
      subst hc4
      refine Zu Z (cw_skip (Ze (Zr (Zo Z Z Z (Zm Z Z (Zo Z Z Z (Za Z Z (Zn (ew_blockN (Ze (Zr (Zo Z Z Z (Zm Z Z (Zo Z Z Z (ow_add Z Z Z (Zo Z Z Z (Za Z Z (Zn ?_))))))))))))))))))
      have lz6 := ((((hl4.trans hl5).trans hl21).trans hl22).trans hl23)
      exact ew_nxt (y3, (W (k1 + 1))) hb4 fun a ha => ⟨(Del v19 M6), v19, (ha.sub ⟨Z, Z, Z, trivial⟩), lz6, hC23, (VRep.mono hl23 hw4)⟩
     ·
      subst hc4
      refine Zt Z (cw_seq (Zr (Zo Z Z Z (ow_buildSlice0I (R := RBox) (e := 25) Z (by kernel_rfl) hC23 fun p10 w23 hw5 hb11 hl24 hC24 => Zo Z Z Z (Za Z Z (Zo Z Z Z (Za Z Z (Zn (Ze (Zy (Zh (ew_blockR (Zh (Zh (ew_blockR (ew_brkR (Zh ?_)))))))))))))))))
      have e3 := hR1 _ (sj hb4).symm
      subst e3
      obtain rfl := sj h
      exact ew_ret (res2 Z (.tmp Z) (.tmp Z)) ⟨_, Z, ⟨_, _, Z, (VRep.mono hC24.back hw5), ((vbool _))⟩, hC24.bx⟩
   ·
    obtain rfl := hbb1.trans hc2
    exact Zu Z (cw_exit (ew_thenX (ew_thenX (ew_blockX (ew_brk (y1, k1) hb4 fun a ha => ⟨M2, v3, (ha.sub ⟨Z, Z, Z, trivial⟩), hl4, hC4, hw1⟩)))))
  ·
   rintro ⟨y4, k4⟩ a w24 hlr4 ⟨M7, v22, hF4, hl25, hC25, hw6⟩
   subst hlr4
   refine ew_at (E := [(1, v1p), (6, v22), (7, (.int .i64 k4))]) hF4 (Ze (cw_seq (Zr (Zo Z Z Z (Zm Z Z (Zo Z Z Z (Za Z Z (Zo Z Z Z (Za Z Z (Zn (Ze (Zy ?_))))))))))))
   obtain rfl := sj h
   exact ew_ret (res2 Z (.tmp Z) (.tmp Z)) ⟨_, Z, ⟨_, _, Z, (VRep.mono hC25.back hw6), ((vbool _))⟩, hC25.bx⟩
 ·
  subst hc1
  refine Zt Z (Zr (Zo Z Z Z (Zm Z Z (Zo Z Z Z (Zl (R := RBox) Z Z (ARep.mono (hl2.trans hl3) hp1) (Tryd.sizeOf25 _) (Tryd.isAgg25 _) fun v24 hv24 => ?_)))))
  obtain ⟨A1, c1, rfl, hw7⟩ := open_Box hv24
  refine Zo Z Z Z (ow_buildSlice (R := RBox) (xs := [a_b]) (cs := #[(.slice A1 a_b.Sides.length c1)]) (e := 25) Z Z (by kernel_rfl) Z Z ⟨_, _, Z, hv24.cells, Z⟩ hC3 fun p11 w25 hw8 hb12 hl26 hC26 => ?_)
  have hr18 := hr2.no hb12
  replace h := bind_some h
  obtain ⟨z2, hz2, h⟩ := h
  refine Zo Z Z Z (ow_append (R := RBox) Z Z Z Z Tryd.underlying28 hi25 hz25 hs25 hy25 Z Z Z Z hr18 hw8 hz2 hC26 fun v25 w26 M8 hr19 hb13 hl27 hC27 hM4 hat4 => Zo Z Z Z (Za Z Z (Zn (Ze (cw_seq (cw_seq (Zr (Zo Z Z Z (Za Z Z (Zn (Ze ?_)))))))))))
  have hw9 := hr19.freezeDel
  have hC28 := hr19.cxDel hC27 (fun _ e => e.elim) hO
  have hl28 := Le.del w26 M8 v25
  replace h := bind_some h
  obtain ⟨lr3, hlr5, h⟩ := h
  refine cw_for hlr5 (fun s a w' => ∃ (M' : Nat → Prop) (v0c : Value), Fits 48 [(1, v1p), (6, v0c), (7, (.int .i64 s.2))] a ∧ Le w26 (Del v25 M8) w' M' ∧ Cx No w M w' M' ∧ VRep (RSlice RBox) w' M' s.1 v0c) ?_ ?_ ?_
  ·
   intro a ha
   exact ⟨(Del v25 M8), v25, ha.sub ⟨Z, Z, Z, trivial⟩, Le.refl _ _, hC28, hw9⟩
  ·
   rintro ⟨y5, k5⟩ a w27 sr3 ⟨M9, v26, hF5, hl29, hC29, hw10⟩ hb14 hR3
   refine cw_at (E := [(1, v1p), (6, v26), (7, (.int .i64 k5))]) hF5 (cw_seq (cw_seq (Zr (Zo Z Z Z (Zm Z Z (Zo Z Z Z (Zm Z Z ?_)))))))
   have lz7 := ((((((hl1.trans hl2).trans hl3).trans hl26).trans hl27).trans hl28).trans hl29)
   refine Zo Z Z Z (ow_len Z Z (VRep.mono lz7 h1) Tryd.underlying28 Z (Zo Z Z Z (ow_lss Z Z Z fun bb3 hbb3 => Zn (Ze ?_))))
   replace hb14 := Zc hb14
   rcases hb14 with ⟨hc5, hb14⟩ | ⟨hc5, hb14⟩
   ·
    obtain rfl := hbb3.trans hc5
    refine Zt Z (cw_skip (Ze (cw_seq (cw_block (cw_seq (Zr (Zo Z Z Z (ow_buildSlice0 (R := RBox) (e := 25) Z (by kernel_rfl) hC29 fun p12 w28 M10 hr20 hb15 hl30 hC30 hM5 hat5 => Zo Z Z Z (Za Z Z (Zn (Ze (cw_seq (cw_seq (Zr (Zo Z Z Z (Za Z Z (Zn (Ze ?_))))))))))))))))))
    replace hb14 := bind_some hb14
    obtain ⟨lr4, hlr6, hb14⟩ := hb14
    refine cw_for hlr6 (fun s a w' => ∃ (M' : Nat → Prop) (v0c : Value), Fits 48 [(1, v1p), (6, v26), (7, (.int .i64 k5)), (8, v0c), (9, (.int .i64 s.2))] a ∧ Le w28 M10 w' M' ∧ Cx No w M w' M' ∧ OwnRow RBox w.heap.size 25 w' M' s.1 v0c) ?_ ?_ ?_
    ·
     intro a ha
     exact ⟨M10, (.slice (some p12) 0 0), ha.sub ⟨Z, Z, Z, Z, Z, trivial⟩, Le.refl _ _, hC30, hr20⟩
    ·
     rintro ⟨y6, k6⟩ a w29 sr4 ⟨M11, v28, hF6, hl31, hC31, hw11⟩ hb16 hR4
     refine cw_at (E := [(1, v1p), (6, v26), (7, (.int .i64 k5)), (8, v28), (9, (.int .i64 k6))]) hF6 (cw_seq (cw_seq (Zr (Zo Z Z Z (Zm Z Z (Zo Z Z Z (Zm Z Z (Zo Z Z Z (ow_len Z Z (VRep.mono (hl30.trans hl31) hw10) Tryd.underlying28 Z (Zo Z Z Z (ow_lss Z Z Z fun bb4 hbb4 => Zn (Ze ?_))))))))))))
     replace hb16 := Zc hb16
     rcases hb16 with ⟨hc6, hb16⟩ | ⟨hc6, hb16⟩
     ·
      obtain rfl := hbb4.trans hc6
      refine Zt Z (cw_skip (Ze (cw_seq (cw_block ?_))))
      replace hb16 := bind_some hb16
      obtain ⟨x6, hx6, hb16⟩ := hb16
      replace hb16 := bind_some hb16
      obtain ⟨x7, hx7, hb16⟩ := hb16
      replace hb16 := bind_some hb16
      obtain ⟨x8, hx8, hb16⟩ := hb16
      have lz8 := ((lz7.trans hl30).trans hl31)
      have lz9 := (hl30.trans hl31)
      refine cw_sub (E' := [(1, v1p), (6, v26), (7, (.int .i64 k5)), (8, v28), (9, (.int .i64 k6))]) ⟨Z, Z, Z, Z, Z, trivial⟩ (cw_drawQ 10 [PEq v28, PV (RSlice RBox) M11 y5, PEq (.int .i64 k6), PA RBox M11 x6, PV RBox M11 x6, PV (RSlice RBox) M11 a_list, PEq (.int .i64 k5), PA RBox M11 x7, PV RBox M11 x7, PV (RSlice RBox) M11 x8] (by kernel_rfl) Z (by kernel_rfl) ⟨Zq, PV.mono _ _ _, Zq, PA.mono _ _ _, PV.mono _ _ _, PV.mono _ _ _, Zq, PA.mono _ _ _, PV.mono _ _ _, PV.mono _ _ _, trivial⟩ ⟨?_, ?_, ?_, ?_, ?_, ?_, ?_, ?_, ?_, ?_, trivial⟩ ?_)
      ·
       intro w31 D hS12 hd12
       exact Zs (E' := [(8, v28)]) ⟨Z, trivial⟩ (Zp Z (Zm Z Z Zb))
      ·
       intro w32 D hS13 hd13
       have hl34 := Le.no M11 hS13
       exact Zs (E' := [(6, v26)]) ⟨Z, trivial⟩ (Zp Z (Zm Z Z ⟨BX.refl _ _, (VRep.mono (lz9.trans hl34) hw10)⟩))
      ·
       intro w33 D hS14 hd14
       exact Zs (E' := [(9, (.int .i64 k6))]) ⟨Z, trivial⟩ (Zp Z (Zm Z Z Zb))
      ·
       intro w34 D hS15 hd15
       have d19 : PV (RSlice RBox) M11 y5 (D 1) w34 := dpA hd15 1 Z
       generalize hq6 : (D 1) = v33 at d19
       exact Zs (E' := [(32, v33), (33, (.int .i64 k6))]) ⟨(congrArg some hq6), (dpE hd15 2 Z Z), trivial⟩ (Zp Z (Zx (R := RBox) Z Z Z d19 Tryd.underlying28 (Tryd.sizeOf25 _) hx6 fun p15 hp15 => ⟨BX.refl _ _, ⟨_, Z, hp15⟩⟩))
      ·
       intro w35 D hS16 hd16
       have d21 : PA RBox M11 x6 (D 3) w35 := dpA hd16 3 Z
       obtain ⟨p16, e4, ha3⟩ := d21
       exact Zs (E' := [(34, (.pointer (some p16)))]) ⟨(congrArg some e4), trivial⟩ (Zp Z (Zl (R := RBox) Z Z ha3 (Tryd.sizeOf25 _) (Tryd.isAgg25 _) fun v34 hv34 => ⟨BX.refl _ _, hv34⟩))
      ·
       intro w36 D hS17 hd17
       have hl38 := Le.no M11 hS17
       exact Zs (E' := [(1, v1p)]) ⟨Z, trivial⟩ (Zp Z (Zm Z Z ⟨BX.refl _ _, (VRep.mono (lz8.trans hl38) h1)⟩))
      ·
       intro w37 D hS18 hd18
       exact Zs (E' := [(7, (.int .i64 k5))]) ⟨Z, trivial⟩ (Zp Z (Zm Z Z Zb))
      ·
       intro w38 D hS19 hd19
       have d22 : PV (RSlice RBox) M11 a_list (D 5) w38 := dpA hd19 5 Z
       generalize hq7 : (D 5) = v35 at d22
       exact Zs (E' := [(36, v35), (37, (.int .i64 k5))]) ⟨(congrArg some hq7), (dpE hd19 6 Z Z), trivial⟩ (Zp Z (Zx (R := RBox) Z Z Z d22 Tryd.underlying28 (Tryd.sizeOf25 _) hx7 fun p17 hp17 => ⟨BX.refl _ _, ⟨_, Z, hp17⟩⟩))
      ·
       intro w39 D hS20 hd20
       have d24 : PA RBox M11 x7 (D 7) w39 := dpA hd20 7 Z
       obtain ⟨p18, e5, ha4⟩ := d24
       exact Zs (E' := [(38, (.pointer (some p18)))]) ⟨(congrArg some e5), trivial⟩ (Zp Z (Zl (R := RBox) Z Z ha4 (Tryd.sizeOf25 _) (Tryd.isAgg25 _) fun v36 hv36 => ⟨BX.refl _ _, hv36⟩))
      ·
       intro w40 D hS21 hd21
       have hl42 := Le.no M11 hS21
       have hC42 := hC31.no hS21
       have d25 : PV RBox M11 x6 (D 4) w40 := dpA hd21 4 Z
       have d26 : PV RBox M11 x7 (D 8) w40 := dpA hd21 8 Z
       generalize hq8 : (D 4) = v37 at d25
       generalize hq9 : (D 8) = v38 at d26
       refine Zs (E' := [(35, v37), (39, v38)]) ⟨(congrArg some hq8), (congrArg some hq9), trivial⟩ (Zp Z (Zk Z Z Tryd.call37 (w_spec_l11Cut (hG.mono (lz8.trans hl42)) hC42.old d25 d26 hx8) fun v39 w41 hv39 => ?_))
       obtain ⟨hv39, hb18⟩ := hv39
       exact ⟨hb18, hv39⟩
      ·
       intro w42 D hS22 hd22
       have d36 : PV (RSlice RBox) M11 x8 (D 9) w42 := dpA hd22 9 Z
       have hl44 := Le.no M11 hS22
       have hC44 := hC31.no hS22
       have hr33 := hw11.no hS22
       generalize hq10 : (D 9) = v40 at d36
       refine lw_sub (E' := [(31, v28), (40, v40), (1, v1p), (6, v26), (7, (.int .i64 k5)), (8, v28), (9, (.int .i64 k6))]) ⟨(dpE hd22 0 Z Z), (congrArg some hq10), Z, Z, Z, Z, Z, trivial⟩ ?_
       replace hb16 := bind_some hb16
       obtain ⟨z3, hz3, hb16⟩ := hb16
       refine Zo Z Z Z (ow_append (R := RBox) Z Z Z Z Tryd.underlying28 hi25 hz25 hs25 hy25 Z Z Z Z hr33 d36 hz3 hC44 fun v41 w43 M12 hr34 hb19 hl45 hC45 hM6 hat6 => Zo Z Z Z (Za Z Z (Zn (ew_blockN (Ze (Zr (Zo Z Z Z (Zm Z Z (Zo Z Z Z (ow_add Z Z Z (Zo Z Z Z (Za Z Z (Zn ?_)))))))))))))
       have lz10 := ((hl31.trans hl44).trans hl45)
       exact ew_nxt (z3, (W (k6 + 1))) hb16 fun a ha => ⟨M12, v41, (ha.sub ⟨Z, Z, Z, Z, Z, trivial⟩), lz10, hC45, hr34⟩
     ·
      obtain rfl := hbb4.trans hc6
      exact Zu Z (cw_exit (ew_thenX (ew_thenX (ew_blockX (ew_brk (y6, k6) hb16 fun a ha => ⟨M11, v28, (ha.sub ⟨Z, Z, Z, Z, Z, trivial⟩), hl31, hC31, hw11⟩)))))
    ·
     rintro ⟨y7, k7⟩ a w44 hlr7 ⟨M13, v42, hF7, hl46, hC46, hw12⟩
     subst hlr7
     refine ew_at (E := [(1, v1p), (6, v26), (7, (.int .i64 k5)), (8, v42), (9, (.int .i64 k7))]) hF7 (Ze (cw_seq (cw_seq (Zr (Zo Z Z Z (Zm Z Z ?_))))))
     have hw13 := hw12.freezeDel
     have hC47 := hw12.cxDel hC46 (fun _ e => e.elim) hO
     have hl47 := Le.del w44 M13 v42
     replace hb14 := bind_some hb14
     obtain ⟨x9, hx9, hb14⟩ := hb14
     have lz11 := (((lz7.trans hl30).trans hl46).trans hl47)
     refine Zo Z Z Z (Zk Z Z Tryd.call52 (w_spec_RegionValid (hG.mono lz11) hC47.old hw13 hx9) fun v44 w45 hv44 => ?_)
     obtain ⟨hv44, hb20⟩ := hv44
     have hl48 := Le.no (Del v42 M13) hb20
     have hC48 := hC47.no hb20
     obtain rfl := vbool_eq hv44
     refine Zo Z Z Z (ow_not Z Z (Zn (Ze ?_)))
     replace hb14 := Zc hb14
     rcases hb14 with ⟨hc7, hb14⟩ | ⟨hc7, hb14⟩
     ·
      subst hc7
      refine Zu Z (cw_skip (Ze (Zr (Zo Z Z Z (Zm Z Z (Zo Z Z Z (Za Z Z (Zn (ew_blockN (Ze (Zr (Zo Z Z Z (Zm Z Z (Zo Z Z Z (ow_add Z Z Z (Zo Z Z Z (Za Z Z (Zn ?_))))))))))))))))))
      have lz12 := ((((hl29.trans hl30).trans hl46).trans hl47).trans hl48)
      exact ew_nxt (y7, (W (k5 + 1))) hb14 fun a ha => ⟨(Del v42 M13), v42, (ha.sub ⟨Z, Z, Z, trivial⟩), lz12, hC48, (VRep.mono hl48 hw13)⟩
     ·
      subst hc7
      refine Zt Z (cw_seq (Zr (Zo Z Z Z (ow_buildSlice0I (R := RBox) (e := 25) Z (by kernel_rfl) hC48 fun p19 w46 hw14 hb21 hl49 hC49 => Zo Z Z Z (Za Z Z (Zo Z Z Z (Za Z Z (Zn (Ze (Zy (Zh (ew_blockR (Zh (Zh (ew_blockR (ew_brkR (Zh ?_)))))))))))))))))
      have e6 := hR3 _ (sj hb14).symm
      subst e6
      obtain rfl := sj h
      exact ew_ret (res2 Z (.tmp Z) (.tmp Z)) ⟨_, Z, ⟨_, _, Z, (VRep.mono hC49.back hw14), ((vbool _))⟩, hC49.bx⟩
   ·
    obtain rfl := hbb3.trans hc5
    exact Zu Z (cw_exit (ew_thenX (ew_thenX (ew_blockX (ew_brk (y5, k5) hb14 fun a ha => ⟨M9, v26, (ha.sub ⟨Z, Z, Z, trivial⟩), hl29, hC29, hw10⟩)))))
  ·
   rintro ⟨y8, k8⟩ a w47 hlr8 ⟨M14, v45, hF8, hl50, hC50, hw15⟩
   subst hlr8
   refine ew_at (E := [(1, v1p), (6, v45), (7, (.int .i64 k8))]) hF8 (Ze (cw_seq (Zr (Zo Z Z Z (Zm Z Z (Zo Z Z Z (Za Z Z (Zo Z Z Z (Za Z Z (Zn (Ze (Zy ?_))))))))))))
   obtain rfl := sj h
   exact ew_ret (res2 Z (.tmp Z) (.tmp Z)) ⟨_, Z, ⟨_, _, Z, (VRep.mono hC50.back hw15), ((vbool _))⟩, hC50.bx⟩

theorem w_spec_RegionLess {w : World} {M : Nat → Prop} (hG : ARep (RArr 4 RShape) w M shapes ⟨0, 0, none⟩) (hO : ∀ b, M b → b < w.heap.size) {v0p : Value} {a_b : Box} (h0 : VRep RBox w M a_b v0p) {v1p : Value} {a_list : List Box} (h1 : VRep (RSlice RBox) w M a_list v1p) {r : (List Box) × Bool} (h : F.spec_RegionLess a_b a_list = some r) :
  Calls Tryd.prog 21 [v0p, v1p].toArray w fun e w' => ∃ v, e = .returned v ∧ (∃ u0 u1, v = .tuple #[u0, u1] ∧ VRep (RSlice RBox) w' M r.1 u0 ∧ VRep RBool w' M r.2 u1) ∧ BX No w w' := by
 have hC : Cx No w M w M := Cx.start hO (fun _ e => e.elim)
 refine walk (N := 24) Tryd.func21 Z Tryd.ntmps21 Z (cw_seq (Zr ?_))
 obtain ⟨A1, c1, rfl, hw1⟩ := open_Box h0
 refine Zo Z Z Z (ow_boxOwn Z Z hC fun g1 w1 hg1 hg2 ho1 hb1 hl1 hC1 => ?_)
 have hm1 : (Add g1 M) g1 := .inl Z
 refine Zo Z Z Z (Za Z Z (Zo Z Z Z (Za Z Z (Zn (Ze (cw_seq (Zr (Zo Z Z Z (ow_loadOwnA Z Z Z ho1 (Tryd.isAgg25 _) (Tryd.sizeOf25 _) Z ?_)))))))))
 have hw2 : VRep RBox w1 (Add g1 M) ({ Sides := a_b.Sides } : Box) (.agg #[(.slice A1 a_b.Sides.length c1)]) := shut_Box (VRep.mono hl1 hw1)
 replace h := bind_some h
 obtain ⟨x1, hx1, h⟩ := h
 refine Zo Z Z Z (Zk Z Z Tryd.call36 (w_spec_l1OwnBox (hG.mono hl1) hC1.old hw2 hx1) fun v1 w2 hv1 => ?_)
 obtain ⟨hv1, hb2⟩ := hv1
 have hl2 := Le.no (Add g1 M) hb2
 have hC2 := hC1.no hb2
 have ho2 := ho1.no hb2
 obtain ⟨A2, c2, rfl, hw3⟩ := open_Box hv1
 refine lw_op0 Z Z (ow_store (X := No) (us := [(.slice A2 x1.Sides.length c2)]) (cs' := #[(.slice A2 x1.Sides.length c2)]) Z Z Z Z ho2 (Tryd.sizeOf25 _) Z Z Z Z hm1 (.inl hg2) Z hC2 fun w3 ho3 hb3 hl3 hC3 => Zn (Ze (cw_seq (Zr (Zo Z Z Z (Zm Z Z ?_))))))
 have lz1 := ((hl1.trans hl2).trans hl3)
 replace h := bind_some h
 obtain ⟨x2, hx2, h⟩ := h
 refine Zo Z Z Z (Zk Z Z Tryd.call51 (w_spec_l1OwnBoxList (hG.mono lz1) hC3.old (VRep.mono lz1 h1) hx2) fun v2 w4 hv2 => ?_)
 obtain ⟨hv2, hb4⟩ := hv2
 have hl4 := Le.no (Add g1 M) hb4
 have hC4 := hC3.no hb4
 have ho4 := ho3.no hb4
 refine Zo Z Z Z (Za Z Z (Zn (Ze (cw_seq (cw_seq (Zr (Zo Z Z Z (ow_loadOwnA Z Z Z ho4 (Tryd.isAgg25 _) (Tryd.sizeOf25 _) Z ?_))))))))
 have hw4 : VRep RBox w4 (Add g1 M) ({ Sides := x1.Sides } : Box) (.agg #[(.slice A2 x1.Sides.length c2)]) := shut_Box (VRep.mono (hl3.trans hl4) hw3)
 replace h := bind_some h
 obtain ⟨x3, hx3, h⟩ := h
 refine Zo Z Z Z (Zk Z Z Tryd.call12 (w_spec_BoxValid (hG.mono (lz1.trans hl4)) hC4.old hw4 hx3) fun v3 w5 hv3 => ?_)
 obtain ⟨hv3, hb5⟩ := hv3
 have hl5 := Le.no (Add g1 M) hb5
 have hC5 := hC4.no hb5
 have ho5 := ho4.no hb5
 obtain rfl := vbool_eq hv3
 refine Zo Z Z Z (ow_not Z Z (Zo Z Z Z (Zm Z Z ?_)))
 replace h := Zc h
 rcases h with ⟨hc1, h⟩ | ⟨hc1, h⟩
 ·
  subst hc1
  refine lw_on Z Z Z Z Z Z (Zm Z Z ?_)
  replace h := bind_some h
  obtain ⟨x4, hx4, h⟩ := h
  have lz2 := ((lz1.trans hl4).trans hl5)
  refine lw_on Z Z Z Z Z Z (Zk Z Z Tryd.call52 (w_spec_RegionValid (hG.mono lz2) hC5.old (VRep.mono hl5 hv2) hx4) fun v4 w6 hv4 => ?_)
  obtain ⟨hv4, hb6⟩ := hv4
  have hl6 := Le.no (Add g1 M) hb6
  have hC6 := hC5.no hb6
  have ho6 := ho5.no hb6
  obtain rfl := vbool_eq hv4
  refine lw_on Z Z Z Z Z Z (ow_not Z Z (Zo Z Z Z (ow_pickF Z Z Z (Zn (Ze ?_)))))
  replace h := Zc h
  rcases h with ⟨hc2, h⟩ | ⟨hc2, h⟩
  ·
   subst hc2
   refine Zu Z (cw_skip (Ze (cw_seq (Zr (Zo Z Z Z (ow_loadOwnA Z Z Z ho6 (Tryd.isAgg25 _) (Tryd.sizeOf25 _) Z ?_))))))
   have lz3 := (((hl3.trans hl4).trans hl5).trans hl6)
   have hw5 : VRep RBox w6 (Add g1 M) ({ Sides := x1.Sides } : Box) (.agg #[(.slice A2 x1.Sides.length c2)]) := shut_Box (VRep.mono lz3 hw3)
   refine Zo Z Z Z (Zm Z Z ?_)
   replace h := bind_some h
   obtain ⟨x5, hx5, h⟩ := h
   refine Zo Z Z Z (Zk Z Z Tryd.call53 (w_spec_l11Less (hG.mono (lz2.trans hl6)) hC6.old hw5 (VRep.mono (hl5.trans hl6) hv2) hx5) fun v5 w7 hv5 => ?_)
   obtain ⟨⟨v6, v7, rfl, hv6, hv7⟩, hb7⟩ := hv5
   have hC7 := hC6.no hb7
   obtain ⟨bb1, hbb1, rfl⟩ := vbool_ex hv7
   refine Zo Z Z Z (ow_extract Z Z Z (Zo Z Z Z (ow_extract Z Z Z (Zo Z Z Z (Za Z Z (Zo Z Z Z (Za Z Z (Zn (Ze (Zy ?_))))))))))
   obtain rfl := sj h
   exact ew_ret (res2 Z (.tmp Z) (.tmp Z)) ⟨_, Z, ⟨_, _, Z, (VRep.mono hC7.back hv6), ((vbool_of hbb1))⟩, hC7.bx⟩
  ·
   subst hc2
   refine Zt Z (cw_seq (Zr (Zo Z Z Z (ow_buildSlice0I (R := RBox) (e := 25) Z (by kernel_rfl) hC6 fun p1 w8 hw6 hb8 hl8 hC8 => Zo Z Z Z (Za Z Z (Zo Z Z Z (Za Z Z (Zn (Ze (Zy (Zh ?_)))))))))))
   obtain rfl := sj h
   exact ew_ret (res2 Z (.tmp Z) (.tmp Z)) ⟨_, Z, ⟨_, _, Z, (VRep.mono hC8.back hw6), ((vbool _))⟩, hC8.bx⟩
 ·
  subst hc1
  refine lw_off Z Z Z Z Z Z (lw_off Z Z Z Z Z Z (lw_off Z Z Z Z Z Z (Zo Z Z Z (ow_pickT Z Z Z (Zn (Ze (Zt Z (cw_seq (Zr (Zo Z Z Z (ow_buildSlice0I (R := RBox) (e := 25) Z (by kernel_rfl) hC5 fun p2 w9 hw7 hb9 hl9 hC9 => Zo Z Z Z (Za Z Z (Zo Z Z Z (Za Z Z (Zn (Ze (Zy (Zh ?_))))))))))))))))))
  obtain rfl := sj h
  exact ew_ret (res2 Z (.tmp Z) (.tmp Z)) ⟨_, Z, ⟨_, _, Z, (VRep.mono hC9.back hw7), ((vbool _))⟩, hC9.bx⟩

theorem w_impl_RegionHas {w : World} {M : Nat → Prop} (hG : ARep (RArr 4 RShape) w M shapes ⟨0, 0, none⟩) (hO : ∀ b, M b → b < w.heap.size) {v0p : Value} {a_list : List Box} (h0 : VRep (RSlice RBox) w M a_list v0p) {v1p : Value} {a_p : Packet} (h1 : VRep RPacket w M a_p v1p) {r : Bool} (h : F.impl_RegionHas a_list a_p = some r) :
  Calls Tryd.prog 22 [v0p, v1p].toArray w fun e w' => ∃ v, e = .returned v ∧ VRep RBool w' M r v ∧ BX No w w' := by
 have hC : Cx No w M w M := Cx.start hO (fun _ e => e.elim)
 refine walk (N := 26) Tryd.func22 Z Tryd.ntmps22 Z (cw_seq (Zr (Zo Z Z Z (ow_box (R := RPacket) Z Z h1 hC fun p1 w1 hp1 hb1 hl1 hC1 => Zo Z Z Z (Za Z Z (Zn (Ze (cw_seq (cw_seq (Zr (Zo Z Z Z (Zm Z Z ?_))))))))))))
 replace h := bind_some h
 obtain ⟨x1, hx1, h⟩ := h
 refine Zo Z Z Z (Zk Z Z Tryd.call49 (w_impl_RegionValid (hG.mono hl1) hC1.old (VRep.mono hl1 h0) hx1) fun v1 w2 hv1 => ?_)
 obtain ⟨hv1, hb2⟩ := hv1
 have hl2 := Le.no M hb2
 have hC2 := hC1.no hb2
 obtain rfl := vbool_eq hv1
 refine Zo Z Z Z (ow_not Z Z (Zo Z Z Z (Zm Z Z ?_)))
 replace h := Zc h
 rcases h with ⟨hc1, h⟩ | ⟨hc1, h⟩
 ·
  subst hc1
  refine lw_on Z Z Z Z Z Z (Zl (R := RPacket) Z Z (ARep.mono hl2 hp1) (Tryd.sizeOf34 _) (Tryd.isAgg34 _) fun v2 hv2 => ?_)
  replace h := bind_some h
  obtain ⟨x2, hx2, h⟩ := h
  refine lw_on Z Z Z Z Z Z (Zk Z Z Tryd.call41 (w_impl_PacketValid (hG.mono (hl1.trans hl2)) hC2.old hv2 hx2) fun v3 w3 hv3 => ?_)
  obtain ⟨hv3, hb3⟩ := hv3
  have hl3 := Le.no M hb3
  have hC3 := hC2.no hb3
  obtain rfl := vbool_eq hv3
  refine lw_on Z Z Z Z Z Z (ow_not Z Z (Zo Z Z Z (ow_pickF Z Z Z (Zn (Ze ?_)))))
  replace h := Zc h
  rcases h with ⟨hc2, h⟩ | ⟨hc2, h⟩
  ·
   subst hc2
   refine Zu Z (cw_skip (Ze (cw_seq (cw_seq (Zr (Zo Z Z Z (Zm Z Z ?_)))))))
   have lz1 := ((hl1.trans hl2).trans hl3)
   refine Zo Z Z Z (ow_len Z Z (VRep.mono lz1 h0) Tryd.underlying28 Z (Zo Z Z Z (Zm Z Z (Zn (Ze ?_)))))
   replace h := bind_some h
   obtain ⟨lr1, hlr1, h⟩ := h
   refine cw_for hlr1 (fun s a w' => ∃ (M' : Nat → Prop), Fits 26 [(3, (.pointer (some p1))), (15, v0p), (16, (.int .i64 (a_list.length : Int))), (17, (.int .i64 s))] a ∧ Le w3 M w' M' ∧ Cx No w M w' M') ?_ ?_ ?_
   ·
    intro a ha
    exact ⟨M, ha.sub ⟨Z, Z, Z, Z, trivial⟩, Le.refl _ _, hC3⟩
   ·
    rintro k1 a w4 sr1 ⟨M1, hF1, hl4, hC4⟩ hb4 hR1
    refine cw_at (E := [(3, (.pointer (some p1))), (15, v0p), (16, (.int .i64 (a_list.length : Int))), (17, (.int .i64 k1))]) hF1 (cw_seq (Zr (Zo Z Z Z (ow_lss Z Z Z fun bb1 hbb1 => Zn (Ze (cw_seq ?_))))))
    replace hb4 := Zc hb4
    rcases hb4 with ⟨hc3, hb4⟩ | ⟨hc3, hb4⟩
    ·
     obtain rfl := hbb1.trans hc3
     refine Zt Z (cw_skip (Ze (cw_seq (cw_block (cw_seq (Zr ?_))))))
     replace hb4 := bind_some hb4
     obtain ⟨x3, hx3, hb4⟩ := hb4
     refine Zo Z Z Z (Zx (R := RBox) Z Z Z (VRep.mono (lz1.trans hl4) h0) Tryd.underlying28 (Tryd.sizeOf25 _) hx3 fun p2 hp2 => Zo Z Z Z (Zl (R := RBox) Z Z hp2 (Tryd.sizeOf25 _) (Tryd.isAgg25 _) fun v5 hv5 => lw_allocStore (R := RBox) Z Z Z Z Z Z Z Tryd.zeroValue25 Tryd.sizeOf25 Z Z Z (by simp) hv5 hC4 fun p3 w5 hp3 hb5 hl5 hC5 => Zn (Ze (cw_seq ?_))))
     replace hb4 := bind_some hb4
     obtain ⟨x4, hx4, hb4⟩ := hb4
     have lz2 := ((lz1.trans hl4).trans hl5)
     have lz3 := (((hl2.trans hl3).trans hl4).trans hl5)
     refine cw_sub (E' := [(3, (.pointer (some p1))), (6, (.pointer (some p3))), (15, v0p), (16, (.int .i64 (a_list.length : Int))), (17, (.int .i64 k1))]) ⟨Z, Z, Z, Z, Z, trivial⟩ (cw_drawQ 3 [PV RBox M1 x3, PV (RArr 4 (RSlice RSpan)) M1 x4, PV RPacket M1 a_p] (by kernel_rfl) Z (by kernel_rfl) ⟨PV.mono _ _ _, PV.mono _ _ _, PV.mono _ _ _, trivial⟩ ⟨?_, ?_, ?_, trivial⟩ ?_)
     ·
      intro w7 D hS1 hd1
      have hl7 := Le.no M1 hS1
      exact Zs (E' := [(6, (.pointer (some p3)))]) ⟨Z, trivial⟩ (Zp Z (Zl (R := RBox) Z Z (ARep.mono hl7 hp3) (Tryd.sizeOf25 _) (Tryd.isAgg25 _) fun v9 hv9 => ⟨BX.refl _ _, hv9⟩))
     ·
      intro w8 D hS2 hd2
      have hl8 := Le.no M1 hS2
      have hC8 := hC5.no hS2
      have d1 : PV RBox M1 x3 (D 0) w8 := dpA hd2 0 Z
      generalize hq1 : (D 0) = v10 at d1
      refine Zs (E' := [(21, v10)]) ⟨(congrArg some hq1), trivial⟩ (Zp Z (Zk Z Z Tryd.call32 (w_impl_sidesOf (hG.mono (lz2.trans hl8)) hC8.old d1 hx4) fun v11 w9 hv11 => ?_))
      obtain ⟨hv11, hb7⟩ := hv11
      exact ⟨hb7, hv11⟩
     ·
      intro w10 D hS3 hd3
      have hl10 := Le.no M1 hS3
      exact Zs (E' := [(3, (.pointer (some p1)))]) ⟨Z, trivial⟩ (Zp Z (Zl (R := RPacket) Z Z (ARep.mono (lz3.trans hl10) hp1) (Tryd.sizeOf34 _) (Tryd.isAgg34 _) fun v12 hv12 => ⟨BX.refl _ _, hv12⟩))
     ·
      intro w11 D hS4 hd4
      have d3 : PV (RArr 4 (RSlice RSpan)) M1 x4 (D 1) w11 := dpA hd4 1 Z
      have d4 : PV RPacket M1 a_p (D 2) w11 := dpA hd4 2 Z
      have hl11 := Le.no M1 hS4
      have hC11 := hC5.no hS4
      generalize hq2 : (D 1) = v13 at d3
      generalize hq3 : (D 2) = v14 at d4
      refine lw_sub (E' := [(22, v13), (23, v14), (3, (.pointer (some p1))), (6, (.pointer (some p3))), (15, v0p), (16, (.int .i64 (a_list.length : Int))), (17, (.int .i64 k1))]) ⟨(congrArg some hq2), (congrArg some hq3), Z, Z, Z, Z, Z, trivial⟩ ?_
      replace hb4 := bind_some hb4
      obtain ⟨x5, hx5, hb4⟩ := hb4
      refine Zo Z Z Z (Zk Z Z Tryd.call42 (w_impl_sides_has (hG.mono (lz2.trans hl11)) hC11.old d3 d4 hx5) fun v15 w12 hv15 => ?_)
      obtain ⟨hv15, hb8⟩ := hv15
      have hl12 := Le.no M1 hb8
      have hC12 := hC11.no hb8
      obtain rfl := vbool_eq hv15
      refine Zn (Ze ?_)
      replace hb4 := Zc hb4
      rcases hb4 with ⟨hc4, hb4⟩ | ⟨hc4, hb4⟩
      ·
       subst hc4
       refine Zt Z (cw_seq (Zr (Zo Z Z Z (Za Z Z (Zn (Ze (Zy (ew_blockR (Zh (Zh (ew_blockR (ew_brkR (Zh ?_)))))))))))))
       have e1 := hR1 _ (sj hb4).symm
       subst e1
       obtain rfl := sj h
       exact ew_ret (res1 Z (.tmp Z)) ⟨_, Z, ((vbool _)), hC12.bx⟩
      ·
       subst hc4
       refine Zu Z (cw_skip (ew_blockN (Ze (Zr (Zo Z Z Z (ow_add Z Z Z (Zo Z Z Z (Zm Z Z (Zn ?_)))))))))
       have lz4 := (((hl4.trans hl5).trans hl11).trans hl12)
       exact ew_nxt (W (k1 + 1)) hb4 fun a ha => ⟨M1, (ha.sub ⟨Z, Z, Z, Z, trivial⟩), lz4, hC12⟩
    ·
     obtain rfl := hbb1.trans hc3
     exact Zu Z (cw_exit (ew_thenX (ew_thenX (ew_blockX (ew_brk k1 hb4 fun a ha => ⟨M1, (ha.sub ⟨Z, Z, Z, Z, trivial⟩), hl4, hC4⟩)))))
   ·
    rintro k2 a w13 hlr2 ⟨M2, hF2, hl13, hC13⟩
    subst hlr2
    refine ew_at (E := [(3, (.pointer (some p1))), (15, v0p), (16, (.int .i64 (a_list.length : Int))), (17, (.int .i64 k2))]) hF2 (Ze (cw_seq (Zr (Zo Z Z Z (Za Z Z (Zn (Ze (Zy ?_))))))))
    obtain rfl := sj h
    exact ew_ret (res1 Z (.tmp Z)) ⟨_, Z, ((vbool _)), hC13.bx⟩
  ·
   subst hc2
   refine Zt Z (cw_seq (Zr (Zo Z Z Z (Za Z Z (Zn (Ze (Zy (Zh ?_))))))))
   obtain rfl := sj h
   exact ew_ret (res1 Z (.tmp Z)) ⟨_, Z, ((vbool _)), hC3.bx⟩
 ·
  subst hc1
  refine lw_off Z Z Z Z Z Z (lw_off Z Z Z Z Z Z (lw_off Z Z Z Z Z Z (Zo Z Z Z (ow_pickT Z Z Z (Zn (Ze (Zt Z (cw_seq (Zr (Zo Z Z Z (Za Z Z (Zn (Ze (Zy (Zh ?_)))))))))))))))
  obtain rfl := sj h
  exact ew_ret (res1 Z (.tmp Z)) ⟨_, Z, ((vbool _)), hC2.bx⟩

theorem w_laws_FnRegionLess {w : World} {M : Nat → Prop} (hG : ARep (RArr 4 RShape) w M shapes ⟨0, 0, none⟩) (hO : ∀ b, M b → b < w.heap.size) {v0p : Value} {a_code : List Int} (h0 : VRep (RSlice RU8) w M a_code v0p) {v1p : Value} {a_more : List Int} (h1 : VRep (RSlice RU8) w M a_more v1p) {r : Bool} (h : F.laws_FnRegionLess a_code a_more = some r) :
  Calls Tryd.prog 4 [v0p, v1p].toArray w fun e w' => ∃ v, e = .returned v ∧ VRep RBool w' M r v ∧ BX No w w' := by
 obtain ⟨i25, hi25, hz25, hs25, hy25⟩ := info25
 have hC : Cx No w M w M := Cx.start hO (fun _ e => e.elim)
 refine walk (N := 100) Tryd.func4 Z Tryd.ntmps4 Z (cw_seq (Zr (Zo Z Z Z (Za Z Z (Zn (Ze (cw_seq (cw_seq (Zr (Zo Z Z Z (Zm Z Z (Zo Z Z Z (ow_len Z Z h0 Tryd.underlying22 Z (Zo Z Z Z (ow_gtr Z Z Z fun bb1 hbb1 => Zo Z Z Z (Zm Z Z ?_))))))))))))))))
 replace h := Zc h
 rcases h with ⟨hc1, h⟩ | ⟨hc1, h⟩
 ·
  obtain rfl := hbb1.trans hc1
  refine lw_off Z Z Z Z Z Z (lw_off Z Z Z Z Z Z (lw_off Z Z Z Z Z Z (Zo Z Z Z (ow_pickT Z Z Z (Zn (Ze (Zt Z (cw_seq (Zr (Zo Z Z Z (Za Z Z (Zn (Ze (Zy (Zh ?_)))))))))))))))
  obtain rfl := sj h
  exact ew_ret (res1 Z (.tmp Z)) ⟨_, Z, ((vbool _)), hC.bx⟩
 ·
  obtain rfl := hbb1.trans hc1
  refine lw_on Z Z Z Z Z Z (Zm Z Z (lw_on Z Z Z Z Z Z (ow_len Z Z h1 Tryd.underlying22 Z (lw_on Z Z Z Z Z Z (ow_gtr Z Z Z fun bb2 hbb2 => Zo Z Z Z (ow_pickF Z Z Z (Zn (Ze ?_))))))))
  replace h := Zc h
  rcases h with ⟨hc2, h⟩ | ⟨hc2, h⟩
  ·
   obtain rfl := hbb2.trans hc2
   refine Zt Z (cw_seq (Zr (Zo Z Z Z (Za Z Z (Zn (Ze (Zy (Zh ?_))))))))
   obtain rfl := sj h
   exact ew_ret (res1 Z (.tmp Z)) ⟨_, Z, ((vbool _)), hC.bx⟩
  ·
   obtain rfl := hbb2.trans hc2
   refine Zu Z (cw_skip (Ze (cw_seq (Zr (Zo Z Z Z (Zm Z Z ?_))))))
   replace h := bind_some h
   obtain ⟨x1, hx1, h⟩ := h
   refine Zo Z Z Z (Zk Z Z Tryd.call19 (w_spec_DrawRegionLess hG hC.old h0 hx1) fun v1 w1 hv1 => ?_)
   obtain ⟨⟨v2, v3, rfl, hv2, hv3⟩, hb1⟩ := hv1
   have hl1 := Le.no M hb1
   have hC1 := hC.no hb1
   refine Zo Z Z Z (Zm Z Z (Zo Z Z Z (ow_extract Z Z Z (Zo Z Z Z (ow_extract Z Z Z (lw_allocStore (R := RBox) Z Z Z Z Z Z Z Tryd.zeroValue25 Tryd.sizeOf25 Z Z Z (by simp) hv2 hC1 fun p1 w2 hp1 hb2 hl2 hC2 => Zo Z Z Z (Za Z Z (Zn (Ze (cw_seq (Zr (Zo Z Z Z (Zl (R := RBox) Z Z hp1 (Tryd.sizeOf25 _) (Tryd.isAgg25 _) fun v4 hv4 => Zo Z Z Z (Zm Z Z ?_))))))))))))))
   replace h := bind_some h
   obtain ⟨x2, hx2, h⟩ := h
   refine Zo Z Z Z (Zk Z Z Tryd.call20 (w_impl_RegionLess (hG.mono (hl1.trans hl2)) hC2.old hv4 (VRep.mono hl2 hv3) hx2) fun v5 w3 hv5 => ?_)
   obtain ⟨⟨v6, v7, rfl, hv6, hv7⟩, hb3⟩ := hv5
   have hl3 := Le.no M hb3
   have hC3 := hC2.no hb3
   obtain ⟨bb3, hbb3, rfl⟩ := vbool_ex hv7
   refine Zo Z Z Z (Zm Z Z (Zo Z Z Z (ow_extract Z Z Z (Zo Z Z Z (ow_extract Z Z Z (Zo Z Z Z (Za Z Z (Zo Z Z Z (Za Z Z (Zn (Ze (cw_seq (Zr (Zo Z Z Z (Zl (R := RBox) Z Z (ARep.mono hl3 hp1) (Tryd.sizeOf25 _) (Tryd.isAgg25 _) fun v8 hv8 => Zo Z Z Z (Zm Z Z ?_))))))))))))))))
   replace h := bind_some h
   obtain ⟨x3, hx3, h⟩ := h
   have lz1 := ((hl1.trans hl2).trans hl3)
   refine Zo Z Z Z (Zk Z Z Tryd.call21 (w_spec_RegionLess (hG.mono lz1) hC3.old hv8 (VRep.mono (hl2.trans hl3) hv3) hx3) fun v9 w4 hv9 => ?_)
   obtain ⟨⟨v10, v11, rfl, hv10, hv11⟩, hb4⟩ := hv9
   have hl4 := Le.no M hb4
   have hC4 := hC3.no hb4
   obtain ⟨bb4, hbb4, rfl⟩ := vbool_ex hv11
   refine Zo Z Z Z (Zm Z Z (Zo Z Z Z (ow_extract Z Z Z (Zo Z Z Z (ow_extract Z Z Z (Zo Z Z Z (Za Z Z (Zo Z Z Z (Za Z Z (Zn (Ze (cw_seq (cw_seq (Zr (Zo Z Z Z (Zm Z Z (Zo Z Z Z (Zm Z Z ?_))))))))))))))))))
   replace h := bind_some h
   obtain ⟨x4, hx4, h⟩ := h
   refine Zo Z Z Z (Zk Z Z Tryd.call10 (w_laws_sameBoxes (hG.mono (lz1.trans hl4)) hC4.old (VRep.mono hl4 hv6) hv10 hx4) fun v12 w5 hv12 => ?_)
   obtain ⟨hv12, hb5⟩ := hv12
   have hl5 := Le.no M hb5
   have hC5 := hC4.no hb5
   obtain rfl := vbool_eq hv12
   refine Zo Z Z Z (ow_not Z Z (Zo Z Z Z (Zm Z Z ?_)))
   replace h := Zc h
   rcases h with ⟨hc3, h⟩ | ⟨hc3, h⟩
   ·
    subst hc3
    refine lw_on Z Z Z Z Z Z (Zm Z Z (lw_on Z Z Z Z Z Z (Zm Z Z (lw_on Z Z Z Z Z Z (ow_neqB Z Z Z Tryd.underlying4 fun bb5 hbb5 => ?_)))))
    have hbb5' : bb5 = (x2.2 != x3.2) := hbb5.trans (by rw [hbb3, hbb4])
    refine Zo Z Z Z (ow_pickF Z Z Z (Zn (Ze ?_)))
    replace h := Zc h
    rcases h with ⟨hc4, h⟩ | ⟨hc4, h⟩
    ·
     obtain rfl := hbb5'.trans hc4
     refine Zt Z (cw_seq (Zr (Zo Z Z Z (Za Z Z (Zn (Ze (Zy (Zh ?_))))))))
     obtain rfl := sj h
     exact ew_ret (res1 Z (.tmp Z)) ⟨_, Z, ((vbool _)), hC5.bx⟩
    ·
     obtain rfl := hbb5'.trans hc4
     refine Zu Z (cw_skip (Ze (cw_seq (cw_seq (Zr (Zo Z Z Z (Zm Z Z (Zo Z Z Z (ow_not Z Z (Zn (Ze ?_)))))))))))
     replace h := Zc h
     rcases h with ⟨hc5, h⟩ | ⟨hc5, h⟩
     ·
      obtain rfl := hbb3.trans hc5
      refine Zu Z (cw_skip (Ze (cw_seq ?_)))
      replace h := bind_some h
      obtain ⟨z1, hz1, h⟩ := h
      replace h := bind_some h
      obtain ⟨z2, hz2, h⟩ := h
      replace h := bind_some h
      obtain ⟨x5, hx5, h⟩ := h
      have lz2 := ((lz1.trans hl4).trans hl5)
      have lz3 := (((hl2.trans hl3).trans hl4).trans hl5)
      have lz4 := ((hl3.trans hl4).trans hl5)
      have lz5 := (hl4.trans hl5)
      refine cw_sub (E' := [(1, v1p), (4, (.bool false)), (5, (.pointer (some p1))), (6, v3), (7, v6)]) ⟨Z, Z, Z, Z, Z, trivial⟩ (cw_drawD 25 10 [none, none, none, none, none, some 0, none, none, none, none] [0, 0, 0, 0, 0, 1, 1, 1, 1, 1] [PLit0, PEq v3, PNZ RBox w5.heap.size 25 w5 M z1, POne RBox w5 M x1.1, PLq RBox w5 M [x1.1], PV (RSlice RBox) M z2, PEq v1p, PEq (.int .i64 (a_more.length : Int)), PV RPacket M x5, PNew w5 34 #[(.int .i64 0), (.int .i64 0), (.int .i64 0), (.int .i64 0)]] (by kernel_rfl) Z (by kernel_rfl) (by kernel_rfl) (by kernel_rfl) ⟨PLit0.mono, (Zq), PNZ.mono, POne.mono, PLq.mono, (PV.mono _ _ _), (Zq), (Zq), (PV.mono _ _ _), (PNew.mono _ _ _), trivial⟩ ⟨(fun h => by cases h), (fun h => by cases h), (fun h => by cases h), (fun h => by cases h), (fun h => by cases h), (fun _ => PEq.monoD _), (fun _ => PEq.monoD _), (fun _ => PV.monoD (fun _ _ _ _ _ _ h => h)), (fun _ => PNew.monoD _ (by decide)), trivial⟩ ⟨?_, ?_, ?_, ?_, ?_, ?_, ?_, ?_, ?_, ?_, trivial⟩ ?_)
      ·
       intro wa D hSa hda
       have hCa := hC5.no hSa
       exact Zs (E' := []) trivial (Zp Z (ow_buildSlice0I (R := RBox) (e := 25) Z (by kernel_rfl) hCa fun pb wb hwb hbb hlb hCb => ⟨hbb, _, Z⟩))
      ·
       intro wa D hSa hda
       exact Zs (E' := [(6, v3)]) ⟨Z, trivial⟩ (Zp Z (Zm Z Z Zb))
      ·
       intro wa D hSa hda
       have d0a : PLit0 (D 0) wa := dpA hda 0 Z
       obtain ⟨pa, hqa⟩ := d0a
       exact Zs (E' := [(56, .slice (some pa) 0 0), (57, v3)]) ⟨congrArg some hqa, dpE hda 1 Z Z, trivial⟩ (Zp Z (ow_appendCopyZ (R := RBox) (B := w5.heap.size) Z Z Z Z Z Tryd.underlying28 hi25 hz25 hs25 hy25 Z Z Z Z (VRep.mono lz3 hv3) hSa hz1 (Nat.le_refl _) fun vb wb hvb hbb => ⟨hbb, hvb⟩))
      ·
       intro wa D hSa hda
       exact Zs (E' := [(5, (.pointer (some p1)))]) ⟨Z, trivial⟩ (Zp Z (ow_loadZ (R := RBox) Z Z (ARep.mono lz4 hp1) hSa (Tryd.sizeOf25 _) (Tryd.isAgg25 _) Z fun v hv => ⟨BX.refl _ _, hv⟩))
      ·
       intro wa D hSa hda
       have d3a : POne RBox w5 M x1.1 (D 3) wa := dpA hda 3 Z
       obtain ⟨ua, hqa, hra⟩ := d3a
       exact Zs (E' := [(59, .agg #[ua])]) ⟨congrArg some hqa, trivial⟩ (Zp Z (ow_buildSliceZ (R := RBox) (xs := [x1.1]) (cs := #[ua]) (e := 25) Z Z (by kernel_rfl) Z ⟨_, _, Z, hra, Z⟩ fun vb wb hvb hbb => ⟨hbb, hvb⟩))
      ·
       intro wa D hSa hda
       have hSa : BX No w5 wa := hSa
       have d2a : PNZ RBox w5.heap.size 25 w5 M z1 (D 2) wa := dpA hda 2 Z
       have d4a : PLq RBox w5 M [x1.1] (D 4) wa := dpA hda 4 Z
       exact Zs (E' := [(58, (D 2)), (60, (D 4))]) ⟨Z, Z, trivial⟩ (Zp Z (ow_growZ (R := RBox) Z Z Z Z Tryd.underlying28 hi25 hz25 hs25 hy25 Z Z Z Z d2a hSa d4a (by simp) hz2 hC5.old fun vb wb hvb hgb => ⟨⟨hgb.1, hgb⟩, hvb⟩))
      ·
       intro wa D hSa hda
       exact Zs (E' := [(1, v1p)]) ⟨Z, trivial⟩ (Zp Z (Zm Z Z Zb))
      ·
       intro wa D hSa hda
       exact Zs (E' := [(62, v1p)]) ⟨dpE hda 6 Z Z, trivial⟩ (Zp Z (ow_len Z Z (VRep.mono (Le.no M hSa) (VRep.mono lz2 h1)) Tryd.underlying22 Z Zb))
      ·
       intro wa D hSa hda
       have hCa := hC5.no hSa
       have d5a : PV (RSlice RBox) M z2 (D 5) wa := dpA hda 5 Z
       exact Zs (E' := [(61, (D 5)), (63, (.int .i64 (a_more.length : Int)))]) ⟨Z, dpE hda 7 Z Z, trivial⟩ (Zp Z (Zk Z Z Tryd.call14 (w_laws_probe (hG.mono (lz2.trans (Le.no M hSa))) hCa.old d5a hx5) fun va wb hva => ⟨hva.2, hva.1⟩))
      ·
       intro wa D hSa hda
       have hCa := hC5.no hSa
       exact Zs (E' := []) trivial (Zp Z (ow_alloc Z (Tryd.zeroValue34 _) hCa fun gb wb hgb hgc hob hbb hlb hCb => ⟨hbb, _, Z, Nat.le_trans hSa.size hgb, hob⟩))
      ·
       intro w6 D hS1 hd1
       have d1 : PV RPacket M x5 (D 8) w6 := (dpA hd1 8 Z) (by decide)
       generalize hq1 : (D 8) = v13 at d1
       have d2 : PNew w5 34 #[(.int .i64 0), (.int .i64 0), (.int .i64 0), (.int .i64 0)] (D 9) w6 := (dpA hd1 9 Z) (by decide)
       obtain ⟨g1, hq2, hg1, ho1⟩ := d2
       have hg2 := Nat.le_trans hC5.bx.size hg1
       have hl6 := (Le.no M hS1).add hg1
       have hC6 := (hC5.no hS1).add ho1.lt hg2
       have hm1 : (Add g1 M) g1 := .inl Z
       have hw1 : VRep RPacket w6 (Add g1 M) x5 v13 := VRep.leaf (fun _ _ _ _ _ h => h) d1
       refine lw_sub (E' := [(64, v13), (11, (.pointer (some ⟨g1, 0, none⟩))), (1, v1p), (4, (.bool false)), (5, (.pointer (some p1))), (6, v3), (7, v6)]) ⟨(congrArg some hq1), (congrArg some hq2), Z, Z, Z, Z, Z, trivial⟩ ?_
       obtain rfl := open_Packet hw1
       refine lw_op0 Z Z (ow_store (X := No) (us := [(.int .i64 x5.From), (.int .i64 x5.To), (.int .i64 x5.Port), (.int .i64 x5.Proto)]) (cs' := #[(.int .i64 x5.From), (.int .i64 x5.To), (.int .i64 x5.Port), (.int .i64 x5.Proto)]) Z Z Z Z ho1 (Tryd.sizeOf34 _) Z Z Z Z hm1 (.inl hg2) Z hC6 fun w7 ho2 hb6 hl7 hC7 => Zn (Ze (cw_seq (Zr (Zo Z Z Z (Za Z Z (Zn (Ze (cw_seq (cw_seq (Zr (Zo Z Z Z (Za Z Z (Zn (Ze ?_)))))))))))))))
       replace h := bind_some h
       obtain ⟨lr1, hlr1, h⟩ := h
       refine cw_for hlr1 (fun s a w' => ∃ (M' : Nat → Prop), Fits 100 [(5, (.pointer (some p1))), (6, v3), (7, v6), (11, (.pointer (some ⟨g1, 0, none⟩))), (12, (.int .i64 s.1)), (13, (.int .i64 s.2))] a ∧ Le w7 (Add g1 M) w' M' ∧ Cx No w M w' M' ∧ Own w' g1 34 #[(.int .i64 x5.From), (.int .i64 x5.To), (.int .i64 x5.Port), (.int .i64 x5.Proto)] ∧ M' g1) ?_ ?_ ?_
       ·
        intro a ha
        exact ⟨(Add g1 M), ha.sub ⟨Z, Z, Z, Z, Z, Z, trivial⟩, Le.refl _ _, hC7, ho2, hm1⟩
       ·
        rintro ⟨k1, k2⟩ a w8 sr1 ⟨M1, hF1, hl8, hC8, ho3, hm2⟩ hb7 hR1
        refine cw_at (E := [(5, (.pointer (some p1))), (6, v3), (7, v6), (11, (.pointer (some ⟨g1, 0, none⟩))), (12, (.int .i64 k1)), (13, (.int .i64 k2))]) hF1 (cw_seq (cw_seq (Zr (Zo Z Z Z (Zm Z Z (Zo Z Z Z (Zm Z Z ?_)))))))
        have lz6 := (((lz5.trans hl6).trans hl7).trans hl8)
        refine Zo Z Z Z (ow_len Z Z (VRep.mono lz6 hv6) Tryd.underlying28 Z (Zo Z Z Z (ow_lss Z Z Z fun bb6 hbb6 => Zn (Ze ?_))))
        replace hb7 := Zc hb7
        rcases hb7 with ⟨hc6, hb7⟩ | ⟨hc6, hb7⟩
        ·
         obtain rfl := hbb6.trans hc6
         refine Zt Z (cw_skip (Ze (cw_seq (cw_block (cw_seq (cw_seq ?_))))))
         replace hb7 := bind_some hb7
         obtain ⟨x6, hx6, hb7⟩ := hb7
         have lz7 := (((lz2.trans hl6).trans hl7).trans hl8)
         refine cw_sub (E' := [(5, (.pointer (some p1))), (6, v3), (7, v6), (11, (.pointer (some ⟨g1, 0, none⟩))), (12, (.int .i64 k1)), (13, (.int .i64 k2))]) ⟨Z, Z, Z, Z, Z, Z, trivial⟩ (cw_drawQ 5 [PV (RSlice RBox) M1 x2.1, PEq (.int .i64 k2), PA RBox M1 x6, PV RBox M1 x6, PV RPacket M1 ({ From := x5.From, To := x5.To, Port := x5.Port, Proto := x5.Proto } : Packet)] (by kernel_rfl) Z (by kernel_rfl) ⟨PV.mono _ _ _, Zq, PA.mono _ _ _, PV.mono _ _ _, PV.mono _ _ _, trivial⟩ ⟨?_, ?_, ?_, ?_, ?_, trivial⟩ ?_)
         ·
          intro w9 D hS2 hd2
          have hl9 := Le.no M1 hS2
          exact Zs (E' := [(7, v6)]) ⟨Z, trivial⟩ (Zp Z (Zm Z Z ⟨BX.refl _ _, (VRep.mono (lz6.trans hl9) hv6)⟩))
         ·
          intro w10 D hS3 hd3
          exact Zs (E' := [(13, (.int .i64 k2))]) ⟨Z, trivial⟩ (Zp Z (Zm Z Z Zb))
         ·
          intro w11 D hS4 hd4
          have d3 : PV (RSlice RBox) M1 x2.1 (D 0) w11 := dpA hd4 0 Z
          generalize hq3 : (D 0) = v17 at d3
          exact Zs (E' := [(71, v17), (72, (.int .i64 k2))]) ⟨(congrArg some hq3), (dpE hd4 1 Z Z), trivial⟩ (Zp Z (Zx (R := RBox) Z Z Z d3 Tryd.underlying28 (Tryd.sizeOf25 _) hx6 fun p3 hp3 => ⟨BX.refl _ _, ⟨_, Z, hp3⟩⟩))
         ·
          intro w12 D hS5 hd5
          have d5 : PA RBox M1 x6 (D 2) w12 := dpA hd5 2 Z
          obtain ⟨p4, e1, ha1⟩ := d5
          exact Zs (E' := [(73, (.pointer (some p4)))]) ⟨(congrArg some e1), trivial⟩ (Zp Z (Zl (R := RBox) Z Z ha1 (Tryd.sizeOf25 _) (Tryd.isAgg25 _) fun v18 hv18 => ⟨BX.refl _ _, hv18⟩))
         ·
          intro w13 D hS6 hd6
          have ho8 := ho3.no hS6
          refine Zs (E' := [(11, (.pointer (some ⟨g1, 0, none⟩)))]) ⟨Z, trivial⟩ (Zp Z (ow_loadOwnA Z Z Z ho8 (Tryd.isAgg34 _) (Tryd.sizeOf34 _) Z ?_))
          have hw3 : VRep RPacket w13 M1 ({ From := x5.From, To := x5.To, Port := x5.Port, Proto := x5.Proto } : Packet) (.agg #[(.int .i64 x5.From), (.int .i64 x5.To), (.int .i64 x5.Port), (.int .i64 x5.Proto)]) := shut_Packet
          exact ⟨BX.refl _ _, hw3⟩
         ·
          intro w14 D hS7 hd7
          have d9 : PV RBox M1 x6 (D 3) w14 := dpA hd7 3 Z
          have d10 : PV RPacket M1 ({ From := x5.From, To := x5.To, Port := x5.Port, Proto := x5.Proto } : Packet) (D 4) w14 := dpA hd7 4 Z
          have hl14 := Le.no M1 hS7
          have hC14 := hC8.no hS7
          have ho9 := ho3.no hS7
          generalize hq4 : (D 3) = v19 at d9
          generalize hq5 : (D 4) = v20 at d10
          refine lw_sub (E' := [(74, v19), (75, v20), (5, (.pointer (some p1))), (6, v3), (7, v6), (11, (.pointer (some ⟨g1, 0, none⟩))), (12, (.int .i64 k1)), (13, (.int .i64 k2))]) ⟨(congrArg some hq4), (congrArg some hq5), Z, Z, Z, Z, Z, Z, trivial⟩ ?_
          replace hb7 := bind_some hb7
          obtain ⟨x7, hx7, hb7⟩ := hb7
          refine Zo Z Z Z (Zk Z Z Tryd.call15 (w_impl_BoxHas (hG.mono (lz7.trans hl14)) hC14.old d9 d10 hx7) fun v21 w15 hv21 => ?_)
          obtain ⟨hv21, hb8⟩ := hv21
          have hl15 := Le.no M1 hb8
          have hC15 := hC14.no hb8
          have ho10 := ho9.no hb8
          obtain rfl := vbool_eq hv21
          refine Zn (Ze ?_)
          replace hb7 := Zc hb7
          rcases hb7 with ⟨hc7, hb7⟩ | ⟨hc7, hb7⟩
          ·
           subst hc7
           refine Zt Z (Zr (Zo Z Z Z (Zm Z Z (Zo Z Z Z (ow_add Z Z Z (Zo Z Z Z (Za Z Z (Zn (Ze (cw_seq (Zr (Zo Z Z Z (Zm Z Z (Zo Z Z Z (Zm Z Z ?_)))))))))))))))
           have lz10 := ((lz6.trans hl14).trans hl15)
           refine Zo Z Z Z (Zx (R := RBox) Z Z Z (VRep.mono lz10 hv6) Tryd.underlying28 (Tryd.sizeOf25 _) hx6 fun p5 hp5 => Zo Z Z Z (Zl (R := RBox) Z Z hp5 (Tryd.sizeOf25 _) (Tryd.isAgg25 _) fun v22 hv22 => ?_))
           replace hb7 := bind_some hb7
           obtain ⟨x8, hx8, hb7⟩ := hb7
           have lz11 := ((lz7.trans hl14).trans hl15)
           refine Zo Z Z Z (Zk Z Z Tryd.call16 (w_impl_BoxEmpty (hG.mono lz11) hC15.old hv22 hx8) fun v23 w16 hv23 => ?_)
           obtain ⟨hv23, hb9⟩ := hv23
           have hl16 := Le.no M1 hb9
           have hC16 := hC15.no hb9
           have ho11 := ho10.no hb9
           obtain rfl := vbool_eq hv23
           refine Zn (Ze ?_)
           replace hb7 := Zc hb7
           rcases hb7 with ⟨hc8, hb7⟩ | ⟨hc8, hb7⟩
           ·
            subst hc8
            refine Zt Z (cw_seq (Zr (Zo Z Z Z (Za Z Z (Zn (Ze (Zy (ew_blockR (Zh (Zh (ew_blockR (ew_brkR (Zh ?_)))))))))))))
            have e2 := hR1 _ (sj hb7).symm
            subst e2
            obtain rfl := sj h
            exact ew_ret (res1 Z (.tmp Z)) ⟨_, Z, ((vbool _)), hC16.bx⟩
           ·
            subst hc8
            refine Zu Z (cw_skip (ew_blockN (Ze (Zr (Zo Z Z Z (Zm Z Z (Zo Z Z Z (ow_add Z Z Z (Zo Z Z Z (Za Z Z (Zn ?_)))))))))))
            have lz12 := (((hl8.trans hl14).trans hl15).trans hl16)
            exact ew_nxt ((W (k1 + 1)), (W (k2 + 1))) hb7 fun a ha => ⟨M1, (ha.sub ⟨Z, Z, Z, Z, Z, Z, trivial⟩), lz12, hC16, ho11, hm2⟩
          ·
           subst hc7
           refine Zu Z (cw_skip (Ze (cw_seq (Zr (Zo Z Z Z (Zm Z Z (Zo Z Z Z (Zm Z Z ?_))))))))
           have lz13 := ((lz6.trans hl14).trans hl15)
           refine Zo Z Z Z (Zx (R := RBox) Z Z Z (VRep.mono lz13 hv6) Tryd.underlying28 (Tryd.sizeOf25 _) hx6 fun p6 hp6 => Zo Z Z Z (Zl (R := RBox) Z Z hp6 (Tryd.sizeOf25 _) (Tryd.isAgg25 _) fun v24 hv24 => ?_))
           replace hb7 := bind_some hb7
           obtain ⟨x9, hx9, hb7⟩ := hb7
           have lz14 := ((lz7.trans hl14).trans hl15)
           refine Zo Z Z Z (Zk Z Z Tryd.call16 (w_impl_BoxEmpty (hG.mono lz14) hC15.old hv24 hx9) fun v25 w17 hv25 => ?_)
           obtain ⟨hv25, hb10⟩ := hv25
           have hl17 := Le.no M1 hb10
           have hC17 := hC15.no hb10
           have ho12 := ho10.no hb10
           obtain rfl := vbool_eq hv25
           refine Zn (Ze ?_)
           replace hb7 := Zc hb7
           rcases hb7 with ⟨hc9, hb7⟩ | ⟨hc9, hb7⟩
           ·
            subst hc9
            refine Zt Z (cw_seq (Zr (Zo Z Z Z (Za Z Z (Zn (Ze (Zy (ew_blockR (Zh (Zh (ew_blockR (ew_brkR (Zh ?_)))))))))))))
            have e3 := hR1 _ (sj hb7).symm
            subst e3
            obtain rfl := sj h
            exact ew_ret (res1 Z (.tmp Z)) ⟨_, Z, ((vbool _)), hC17.bx⟩
           ·
            subst hc9
            refine Zu Z (cw_skip (ew_blockN (Ze (Zr (Zo Z Z Z (Zm Z Z (Zo Z Z Z (ow_add Z Z Z (Zo Z Z Z (Za Z Z (Zn ?_)))))))))))
            have lz15 := (((hl8.trans hl14).trans hl15).trans hl17)
            exact ew_nxt (k1, (W (k2 + 1))) hb7 fun a ha => ⟨M1, (ha.sub ⟨Z, Z, Z, Z, Z, Z, trivial⟩), lz15, hC17, ho12, hm2⟩
        ·
         obtain rfl := hbb6.trans hc6
         exact Zu Z (cw_exit (ew_thenX (ew_thenX (ew_blockX (ew_brk (k1, k2) hb7 fun a ha => ⟨M1, (ha.sub ⟨Z, Z, Z, Z, Z, Z, trivial⟩), hl8, hC8, ho3, hm2⟩)))))
       ·
        rintro ⟨k3, k4⟩ a w18 hlr2 ⟨M2, hF2, hl18, hC18, ho13, hm3⟩
        subst hlr2
        refine ew_at (E := [(5, (.pointer (some p1))), (6, v3), (7, v6), (11, (.pointer (some ⟨g1, 0, none⟩))), (12, (.int .i64 k3)), (13, (.int .i64 k4))]) hF2 (Ze (cw_seq (Zr (Zo Z Z Z (Zm Z Z (Zo Z Z Z (ow_leq Z Z Z fun bb7 hbb7 => Zo Z Z Z (Zm Z Z ?_))))))))
        replace h := Zc h
        rcases h with ⟨hc10, h⟩ | ⟨hc10, h⟩
        ·
         obtain rfl := hbb7.trans hc10
         refine lw_on Z Z Z Z Z Z (Zm Z Z (lw_on Z Z Z Z Z Z (ow_eqlI Z Z Z fun bb8 hbb8 => ?_)))
         have lz16 := (((lz4.trans hl6).trans hl7).trans hl18)
         refine lw_on Z Z Z Z Z Z (Zl (R := RBox) Z Z (ARep.mono lz16 hp1) (Tryd.sizeOf25 _) (Tryd.isAgg25 _) fun v28 hv28 => lw_on Z Z Z Z Z Z (ow_loadOwnA Z Z Z ho13 (Tryd.isAgg34 _) (Tryd.sizeOf34 _) Z ?_))
         have hw4 : VRep RPacket w18 M2 ({ From := x5.From, To := x5.To, Port := x5.Port, Proto := x5.Proto } : Packet) (.agg #[(.int .i64 x5.From), (.int .i64 x5.To), (.int .i64 x5.Port), (.int .i64 x5.Proto)]) := shut_Packet
         replace h := bind_some h
         obtain ⟨x10, hx10, h⟩ := h
         have lz17 := (((lz2.trans hl6).trans hl7).trans hl18)
         refine lw_on Z Z Z Z Z Z (Zk Z Z Tryd.call15 (w_impl_BoxHas (hG.mono lz17) hC18.old hv28 hw4 hx10) fun v29 w19 hv29 => ?_)
         obtain ⟨hv29, hb11⟩ := hv29
         have hl19 := Le.no M2 hb11
         have hC19 := hC18.no hb11
         have ho14 := ho13.no hb11
         obtain rfl := vbool_eq hv29
         refine lw_on Z Z Z Z Z Z (Zm Z Z ?_)
         replace h := Zc h
         rcases h with ⟨hc11, h⟩ | ⟨hc11, h⟩
         ·
          subst hc11
          refine lw_on Z Z Z Z Z Z (Zm Z Z (lw_on Z Z Z Z Z Z (ow_loadOwnA Z Z Z ho14 (Tryd.isAgg34 _) (Tryd.sizeOf34 _) Z ?_)))
          have hw5 : VRep RPacket w19 M2 ({ From := x5.From, To := x5.To, Port := x5.Port, Proto := x5.Proto } : Packet) (.agg #[(.int .i64 x5.From), (.int .i64 x5.To), (.int .i64 x5.Port), (.int .i64 x5.Proto)]) := shut_Packet
          have lz18 := ((((lz3.trans hl6).trans hl7).trans hl18).trans hl19)
          replace h := bind_some h
          obtain ⟨x11, hx11, h⟩ := h
          refine lw_on Z Z Z Z Z Z (Zk Z Z Tryd.call22 (w_impl_RegionHas (hG.mono (lz17.trans hl19)) hC19.old (VRep.mono lz18 hv3) hw5 hx11) fun v30 w20 hv30 => ?_)
          obtain ⟨hv30, hb12⟩ := hv30
          have hC20 := hC19.no hb12
          obtain rfl := vbool_eq hv30
          refine lw_on Z Z Z Z Z Z (ow_not Z Z (lw_on Z Z Z Z Z Z (ow_pickT Z Z Z (lw_on Z Z Z Z Z Z (ow_eqlB Z Z Z Tryd.underlying4 fun bb9 hbb9 => ?_)))))
          have hbb9' : bb9 = ((k3 == 1) == (!x11)) := hbb9.trans (by rw [hbb8])
          refine Zo Z Z Z (ow_pickT Z Z Z (Zo Z Z Z (Za Z Z (Zn (Ze (Zy ?_))))))
          obtain rfl := sj h
          exact ew_ret (res1 Z (.tmp Z)) ⟨_, Z, ((vbool_of hbb9')), hC20.bx⟩
         ·
          subst hc11
          refine lw_off Z Z Z Z Z Z (lw_off Z Z Z Z Z Z (lw_off Z Z Z Z Z Z (lw_off Z Z Z Z Z Z (lw_on Z Z Z Z Z Z (ow_pickF Z Z Z (lw_on Z Z Z Z Z Z (ow_eqlB Z Z Z Tryd.underlying4 fun bb10 hbb10 => ?_)))))))
          have hbb10' : bb10 = ((k3 == 1) == false) := hbb10.trans (by rw [hbb8])
          refine Zo Z Z Z (ow_pickT Z Z Z (Zo Z Z Z (Za Z Z (Zn (Ze (Zy ?_))))))
          obtain rfl := sj h
          exact ew_ret (res1 Z (.tmp Z)) ⟨_, Z, ((vbool_of hbb10')), hC19.bx⟩
        ·
         obtain rfl := hbb7.trans hc10
         refine lw_off Z Z Z Z Z Z (lw_off Z Z Z Z Z Z (lw_off Z Z Z Z Z Z (lw_off Z Z Z Z Z Z (lw_off Z Z Z Z Z Z (lw_off Z Z Z Z Z Z (lw_off' Z Z Z Z Z Z (lw_off' Z Z Z Z Z Z (lw_off' Z Z Z Z Z Z (lw_off' Z Z Z Z Z Z (lw_off Z Z Z Z Z Z (lw_off Z Z Z Z Z Z (Zo Z Z Z (ow_pickF Z Z Z (Zo Z Z Z (Za Z Z (Zn (Ze (Zy ?_))))))))))))))))))
         obtain rfl := sj h
         exact ew_ret (res1 Z (.tmp Z)) ⟨_, Z, ((vbool _)), hC18.bx⟩
     ·
      obtain rfl := hbb3.trans hc5
      refine Zt Z (cw_seq (Zr (Zo Z Z Z (Zm Z Z (Zo Z Z Z (ow_len Z Z (VRep.mono (hl4.trans hl5) hv6) Tryd.underlying28 Z (Zo Z Z Z (ow_eqlI Z Z Z fun bb11 hbb11 => Zo Z Z Z (Zm Z Z ?_)))))))))
      replace h := Zc h
      rcases h with ⟨hc12, h⟩ | ⟨hc12, h⟩
      ·
       obtain rfl := hbb11.trans hc12
       replace h := bind_some h
       obtain ⟨x12, hx12, h⟩ := h
       have lz19 := ((lz1.trans hl4).trans hl5)
       refine lw_on Z Z Z Z Z Z (Zk Z Z Tryd.call13 (w_laws_alive (hG.mono lz19) hC5.old hx12) fun v31 w21 hv31 => ?_)
       obtain ⟨hv31, hb13⟩ := hv31
       have hC21 := hC5.no hb13
       obtain rfl := vbool_eq hv31
       refine Zo Z Z Z (ow_pickT Z Z Z (Zo Z Z Z (Za Z Z (Zn (Ze (Zy (Zh ?_)))))))
       obtain rfl := sj h
       exact ew_ret (res1 Z (.tmp Z)) ⟨_, Z, ((vbool _)), hC21.bx⟩
      ·
       obtain rfl := hbb11.trans hc12
       refine lw_off Z Z Z Z Z Z (Zo Z Z Z (ow_pickF Z Z Z (Zo Z Z Z (Za Z Z (Zn (Ze (Zy (Zh ?_))))))))
       obtain rfl := sj h
       exact ew_ret (res1 Z (.tmp Z)) ⟨_, Z, ((vbool _)), hC5.bx⟩
   ·
    subst hc3
    refine lw_off Z Z Z Z Z Z (lw_off Z Z Z Z Z Z (lw_off Z Z Z Z Z Z (Zo Z Z Z (ow_pickT Z Z Z (Zn (Ze (Zt Z (cw_seq (Zr (Zo Z Z Z (Za Z Z (Zn (Ze (Zy (Zh ?_)))))))))))))))
    obtain rfl := sj h
    exact ew_ret (res1 Z (.tmp Z)) ⟨_, Z, ((vbool _)), hC5.bx⟩


end Go.PF
