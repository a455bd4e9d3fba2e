/- The walks; no condition. -/
import Derived.Test.YtbnndochnkkllaaDoorProg
import Derived.Test.YtbnndochnkkllaaDoorWk1
import Derived.Test.YtbnndochnkkllaaDoorPFSeq
import Derived.Test.YtbnndochnkkllaaDoorPFMark
import Derived.Test.YtbnndochnkkllaaDoorPFWild
import Derived.Test.YtbnndochnkkllaaDoorPFTree
set_option maxRecDepth 100000
set_option maxHeartbeats 4000000
namespace Go.PF
open Go Go.RowKit Go.Proofs

theorem w_laws_FnExactRegionLess {w : World} {M : Nat → Prop} (hG : ARep (RArr 4 RShape) w M shapes ⟨0, 0, none⟩) (hO : ∀ b, M b → b < w.heap.size) {v0p : Value} {a_aB : Box} (h0 : VRep RBox w M a_aB v0p) {v1p : Value} {a_aList : List Box} (h1 : VRep (RSlice RBox) w M a_aList v1p) {r : Bool} (h : F.laws_FnExactRegionLess a_aB a_aList = some r) :
  Calls Tryd.prog 13 [v0p, v1p].toArray w fun e w' => ∃ v, e = .returned v ∧ VRep RBool w' M r v ∧ BX No w w' := by
 have hC : Cx No w M w M := Cx.start hO (fun _ e => e.elim)
 refine walk (N := 119) Tryd.func13 Z Tryd.ntmps13 Z (cw_seq (cw_region (lw_op Z Z Z (ow_box (R := RBox) Z Z h0 hC fun p1 w1 hp1 hb1 hl1 hC1 => lw_op Z Z Z (ow_assign Z Z (lw_nil (ew_then (cw_seq (cw_region (lw_op Z Z Z (ow_assign Z Z (lw_nil (ew_then (cw_seq (cw_region (lw_op Z Z Z (ow_load (R := RBox) Z Z hp1 (Tryd.sizeOf42 _) (Tryd.isAgg42 _) fun v1 hv1 => lw_op Z Z Z (ow_move Z Z ?_))))))))))))))))))
 replace h := bind_some h
 obtain ⟨x1, hx1, h⟩ := h
 refine lw_op Z Z Z (ow_call Z Z Tryd.call21 (w_laws_szBox (hG.mono hl1) hC1.old hv1 hx1) fun v2 w2 hv2 => ?_)
 obtain ⟨hv2, hb2⟩ := hv2
 have hl2 := Le.no M hb2
 have hC2 := hC1.no hb2
 obtain rfl := vint_eq hv2
 refine lw_op Z Z Z (ow_assign Z Z (lw_nil (ew_then (cw_seq (cw_seq (cw_region (lw_op Z Z Z (ow_move Z Z (lw_op Z Z Z (ow_lss Z Z Z fun bb1 hbb1 => lw_nil (ew_then ?_)))))))))))
 replace h := cond_some h
 rcases h with ⟨hc1, h⟩ | ⟨hc1, h⟩
 ·
  obtain rfl := hbb1.trans hc1
  refine cw_true Z (cw_seq (cw_region (lw_op Z Z Z (ow_assign Z Z (lw_nil (ew_then (cw_ret (ew_thenR ?_))))))))
  obtain rfl := sj h
  exact ew_ret (res1 Z (.tmp Z)) ⟨_, Z, ((vbool _)), hC2.bx⟩
 ·
  obtain rfl := hbb1.trans hc1
  refine cw_false Z (cw_skip (ew_then (cw_seq (cw_region (lw_op Z Z Z (ow_move Z Z (lw_op Z Z Z (ow_move Z Z ?_))))))))
  replace h := bind_some h
  obtain ⟨x2, hx2, h⟩ := h
  refine lw_op Z Z Z (ow_call Z Z Tryd.call64 (w_laws_szBoxS (hG.mono (hl1.trans hl2)) hC2.old (VRep.mono (hl1.trans hl2) h1) hx2) fun v3 w3 hv3 => ?_)
  obtain ⟨hv3, hb3⟩ := hv3
  have hl3 := Le.no M hb3
  have hC3 := hC2.no hb3
  obtain rfl := vint_eq hv3
  refine lw_op Z Z Z (ow_assign Z Z (lw_nil (ew_then (cw_seq (cw_seq (cw_region (lw_op Z Z Z (ow_move Z Z (lw_op Z Z Z (ow_lss Z Z Z fun bb2 hbb2 => lw_nil (ew_then ?_)))))))))))
  replace h := cond_some h
  rcases h with ⟨hc2, h⟩ | ⟨hc2, h⟩
  ·
   obtain rfl := hbb2.trans hc2
   refine cw_true Z (cw_seq (cw_region (lw_op Z Z Z (ow_assign Z Z (lw_nil (ew_then (cw_ret (ew_thenR ?_))))))))
   obtain rfl := sj h
   exact ew_ret (res1 Z (.tmp Z)) ⟨_, Z, ((vbool _)), hC3.bx⟩
  ·
   obtain rfl := hbb2.trans hc2
   refine cw_false Z (cw_skip (ew_then (cw_seq (cw_region (lw_op Z Z Z (ow_load (R := RBox) Z Z (ARep.mono (hl2.trans hl3) hp1) (Tryd.sizeOf42 _) (Tryd.isAgg42 _) fun v4 hv4 => ?_))))))
   replace h := bind_some h
   obtain ⟨x3, hx3, h⟩ := h
   have lz1 := ((hl1.trans hl2).trans hl3)
   refine lw_op Z Z Z (ow_call Z Z Tryd.call23 (wu_laws_toBox (hG.mono lz1) hC3.old (Y := (fun b => w3.heap.size ≤ b)) (fun _ hb => hb) hv4 hx3) fun v5 w4 hv5 => ?_)
   obtain ⟨hv5, hb4⟩ := hv5
   have hl4 := Le.no M hb4
   have hC4 := hC3.no hb4
   have hw1 := Fg.vrep fg_Box hv5
   refine lw_op Z Z Z (ow_move Z Z ?_)
   replace h := bind_some h
   obtain ⟨x4, hx4, h⟩ := h
   refine lw_op Z Z Z (ow_call Z Z Tryd.call66 (wu_laws_toBoxS (hG.mono (lz1.trans hl4)) hC4.old (Y := (fun b => w4.heap.size ≤ b)) (fun _ hb => hb) (VRep.mono (lz1.trans hl4) h1) hx4) fun v6 w5 hv6 => ?_)
   obtain ⟨hv6, hb5⟩ := hv6
   have hl5 := Le.no M hb5
   have hC5 := hC4.no hb5
   have hw2 := Fg.vrep (Fg.slice fg_Box) hv6
   replace h := bind_some h
   obtain ⟨x5, hx5, h⟩ := h
   have lz2 := ((lz1.trans hl4).trans hl5)
   refine lw_op Z Z Z (ow_call Z Z Tryd.call65 (w_spec_RegionLess (hG.mono lz2) hC5.old (VRep.mono hl5 hw1) hw2 hx5) fun v7 w6 hv7 => ?_)
   obtain ⟨⟨v8, v9, rfl, hv8, hv9⟩, hb6⟩ := hv7
   have hl6 := Le.no M hb6
   have hC6 := hC5.no hb6
   obtain ⟨bb3, hbb3, rfl⟩ := vbool_ex hv9
   refine lw_op Z Z Z (ow_move Z Z (lw_op Z Z Z (ow_extract Z Z Z (lw_op Z Z Z (ow_extract Z Z Z (lw_op Z Z Z (ow_assign Z Z (lw_op Z Z Z (ow_assign Z Z (lw_nil (ew_then (cw_seq (cw_region ?_)))))))))))))
   have lz3 := ((((hl2.trans hl3).trans hl4).trans hl5).trans hl6)
   refine lw_op Z Z Z (ow_load (R := RBox) Z Z (ARep.mono lz3 hp1) (Tryd.sizeOf42 _) (Tryd.isAgg42 _) fun v10 hv10 => lw_op Z Z Z (ow_call Z Z Tryd.call23 (wu_laws_toBox (hG.mono (lz2.trans hl6)) hC6.old (Y := (fun b => w6.heap.size ≤ b)) (fun _ hb => hb) hv10 hx3) fun v11 w7 hv11 => ?_))
   obtain ⟨hv11, hb7⟩ := hv11
   have hl7 := Le.no M hb7
   have hC7 := hC6.no hb7
   have hw3 := Fg.vrep fg_Box hv11
   have hw4 := Wd.vrep wd_Box hv11
   have hu1 := UFz.yf (fun b => w6.heap.size ≤ b) w7
   have hs1 : w6.heap.size ≤ w6.heap.size := Nat.le_refl _
   refine lw_op Z Z Z (ow_alloc Z (Tryd.zeroValue48 _) hC7 fun g1 w8 hg1 hg2 ho1 hb8 hl8 hC8 => ?_)
   have hy1 := fun (h : (YF (fun b => w6.heap.size ≤ b) w7) g1) => Nat.lt_irrefl _ (Nat.lt_of_lt_of_le (hu1 _ h).1 hg1)
   have hw5 := VRep.mono (Le.no _ hb8) hw4
   have hu2 := UFz.no hu1 hb8
   have hm1 : (Add g1 M) g1 := .inl Z
   obtain ⟨A1, c1, rfl, hw6⟩ := open_Box hw3
   refine lw_op0 Z Z (ow_store (X := No) (us := [(.slice A1 x3.Sides.length c1)]) (cs' := #[(.slice A1 x3.Sides.length c1)]) Z Z Z Z ho1 (Tryd.sizeOf48 _) Z Z Z Z hm1 (.inl hg2) Z hC8 fun w9 ho2 hb9 hl9 hC9 => ?_)
   have hw7 := VRep.other hw5 hb9 (fun b e h => hy1 ((show b = g1 from e) ▸ h))
   have hu3 := UFz.other hu2 hb9 (fun b e h => hy1 ((show b = g1 from e) ▸ h))
   refine lw_nil (ew_then (cw_seq (cw_region (lw_op Z Z Z (ow_move Z Z ?_)))))
   have lz4 := ((((lz2.trans hl6).trans hl7).trans hl8).trans hl9)
   refine lw_op Z Z Z (ow_call Z Z Tryd.call66 (wu_laws_toBoxS (hG.mono lz4) hC9.old (Y := (fun b => w9.heap.size ≤ b)) (fun _ hb => hb) (VRep.mono lz4 h1) hx4) fun v12 w10 hv12 => ?_)
   obtain ⟨hv12, hb10⟩ := hv12
   have hl10 := Le.no (Add g1 M) hb10
   have hC10 := hC9.no hb10
   have hw8 := VRep.mono (Le.no _ hb10) hw7
   have hu4 := UFz.no hu3 hb10
   have ho3 := ho2.no hb10
   have hw9 := Fg.vrep (Fg.slice fg_Box) hv12
   have hw10 := Wd.vrep (Wd.slice wd_Box) hv12
   have hu5 := UFz.yf (fun b => w9.heap.size ≤ b) w10
   have hs2 : w7.heap.size ≤ w9.heap.size := (hl8.trans hl9).size
   have hs3 : w6.heap.size ≤ w9.heap.size := ((hl7.trans hl8).trans hl9).size
   refine lw_op Z Z Z (ow_assign Z Z (lw_nil (ew_then (cw_seq (cw_region (lw_op Z Z Z (ow_loadOwnA Z Z Z ho3 (Tryd.isAgg48 _) (Tryd.sizeOf48 _) Z ?_)))))))
   have lz5 := ((hl8.trans hl9).trans hl10)
   have hw11 : VRep RBox w10 (Add g1 M) ({ Sides := x3.Sides } : Box) (.agg #[(.slice A1 x3.Sides.length c1)]) := shut_Box (VRep.mono lz5 hw6)
   refine lw_op Z Z Z (ow_move Z Z ?_)
   replace h := bind_some h
   obtain ⟨x6, hx6, h⟩ := h
   refine lw_op Z Z Z (ow_call Z Z Tryd.call67 (wt_impl_RegionLess (hG.mono (lz4.trans hl10)) hC10.old (Y := (fun b => w10.heap.size ≤ b)) (fun _ hb => hb) hw11 hw9 hx6) fun v13 w11 hv13 => ?_)
   obtain ⟨⟨v14, v15, rfl, hv14, hv15⟩, hb11⟩ := hv13
   have hl11 := Le.no (Add g1 M) hb11
   have hC11 := hC10.no hb11
   have hw12 := VRep.mono (Le.no _ hb11) hw8
   have hu6 := UFz.no hu4 hb11
   have hw13 := VRep.mono (Le.no _ hb11) hw10
   have hu7 := UFz.no hu5 hb11
   have ho4 := ho3.no hb11
   have hw14 := Fg.vrep (Fg.in_ fgBoxSS) hv14
   have hw15 := RIn.yb bdBoxSS hv14
   have hs4 : w7.heap.size ≤ w10.heap.size := ((hl8.trans hl9).trans hl10).size
   have hs5 : w10.heap.size ≤ w10.heap.size := Nat.le_refl _
   have hs6 : w6.heap.size ≤ w10.heap.size := (((hl7.trans hl8).trans hl9).trans hl10).size
   obtain ⟨bb4, hbb4, rfl⟩ := vbool_ex hv15
   refine lw_op Z Z Z (ow_move Z Z (lw_op Z Z Z (ow_extract Z Z Z (lw_op Z Z Z (ow_extract Z Z Z (lw_op Z Z Z (ow_assign Z Z (lw_op Z Z Z (ow_assign Z Z (lw_nil (ew_then (cw_seq (cw_seq (cw_region (lw_op Z Z Z (ow_move Z Z (lw_op Z Z Z (ow_move Z Z ?_))))))))))))))))))
   have lz6 := ((((hl7.trans hl8).trans hl9).trans hl10).trans hl11)
   replace h := bind_some h
   obtain ⟨x7, hx7, h⟩ := h
   have lz7 := ((lz4.trans hl10).trans hl11)
   refine lw_op Z Z Z (ow_call Z Z Tryd.call41 (w_laws_eqBoxS (hG.mono lz7) hC11.old hw14 (VRep.mono lz6 hv8) hx7) fun v16 w12 hv16 => ?_)
   obtain ⟨hv16, hb12⟩ := hv16
   have hl12 := Le.no (Add g1 M) hb12
   have hC12 := hC11.no hb12
   have hw16 := VRep.mono (Le.no _ hb12) hw12
   have hu8 := UFz.no hu6 hb12
   have hw17 := VRep.mono (Le.no _ hb12) hw13
   have hu9 := UFz.no hu7 hb12
   have hw18 := VRep.mono (Le.no _ hb12) hw15
   have hs7 := Nat.le_trans (Nat.le_refl _) hb12.size
   have ho5 := ho4.no hb12
   obtain rfl := vbool_eq hv16
   refine lw_op Z Z Z (ow_not Z Z (lw_op Z Z Z (ow_move Z Z ?_)))
   replace h := cond_some h
   rcases h with ⟨hc3, h⟩ | ⟨hc3, h⟩
   ·
    subst hc3
    refine lw_on Z Z Z Z Z Z (ow_move Z Z (lw_on Z Z Z Z Z Z (ow_move Z Z (lw_on Z Z Z Z Z Z (ow_neqB Z Z Z Tryd.underlying4 fun bb5 hbb5 => ?_)))))
    have hbb5' : bb5 = (x6.2 != x5.2) := hbb5.trans (by rw [hbb4, hbb3])
    refine lw_op Z Z Z (ow_pickF Z Z Z (lw_nil (ew_then ?_)))
    replace h := cond_some h
    rcases h with ⟨hc4, h⟩ | ⟨hc4, h⟩
    ·
     obtain rfl := hbb5'.trans hc4
     refine cw_true Z (cw_seq (cw_region (lw_op Z Z Z (ow_assign Z Z (lw_nil (ew_then (cw_ret (ew_thenR ?_))))))))
     obtain rfl := sj h
     exact ew_ret (res1 Z (.tmp Z)) ⟨_, Z, ((vbool _)), hC12.bx⟩
    ·
     obtain rfl := hbb5'.trans hc4
     refine cw_false Z (cw_skip (ew_then (cw_seq (cw_seq ?_))))
     have lz8 := (lz7.trans hl12)
     have lz9 := ((((((lz3.trans hl7).trans hl8).trans hl9).trans hl10).trans hl11).trans hl12)
     have lz14 := ((lz5.trans hl11).trans hl12)
     have lz15 := (hl11.trans hl12)
     refine cw_sub (E' := [(1, v1p), (2, (.pointer (some p1))), (4, (.bool false)), (6, v8), (7, (.bool bb3)), (8, (Zw g1 0)), (9, v12), (10, v14), (11, (.bool bb4))]) ⟨Z, Z, Z, Z, Z, Z, Z, Z, Z, Zt⟩ (cw_drawQ 3 [PV RBox (Add g1 M) ({ Sides := x3.Sides } : Box), PV RBox (Add g1 M) a_aB, PV RBox (Add g1 M) x3] (by kernel_rfl) Z (by kernel_rfl) ⟨PV.mono _ _ _, PV.mono _ _ _, PV.mono _ _ _, Zt⟩ ⟨?_, ?_, ?_, Zt⟩ ?_)
     ·
      intro w14 D hS1 hd1
      have hl14 := Le.no (Add g1 M) hS1
      have ho7 := ho5.no hS1
      refine dg_sub (E' := [(8, (Zw g1 0))]) ⟨Z, Zt⟩ (dg_plain Z (ow_loadOwnA Z Z Z ho7 (Tryd.isAgg48 _) (Tryd.sizeOf48 _) Z ?_))
      have hw27 : VRep RBox w14 (Add g1 M) ({ Sides := x3.Sides } : Box) (.agg #[(.slice A1 x3.Sides.length c1)]) := shut_Box (VRep.mono (lz14.trans hl14) hw6)
      exact ⟨BX.refl _ _, hw27⟩
     ·
      intro w15 D hS2 hd2
      have hl15 := Le.no (Add g1 M) hS2
      exact dg_sub (E' := [(2, (.pointer (some p1)))]) ⟨Z, Zt⟩ (dg_plain Z (ow_load (R := RBox) Z Z (ARep.mono (lz9.trans hl15) hp1) (Tryd.sizeOf42 _) (Tryd.isAgg42 _) fun v19 hv19 => ⟨BX.refl _ _, hv19⟩))
     ·
      intro w16 D hS3 hd3
      have hl16 := Le.no (Add g1 M) hS3
      have hC16 := hC12.no hS3
      have d1 : PV RBox (Add g1 M) a_aB (D 1) w16 := dpA hd3 1 Z
      generalize hq1 : (D 1) = v20 at d1
      refine dg_sub (E' := [(55, v20)]) ⟨congrArg some hq1, Zt⟩ (dg_plain Z (ow_call Z Z Tryd.call23 (wu_laws_toBox (hG.mono (lz8.trans hl16)) hC16.old (Y := (fun b => w16.heap.size ≤ b)) (fun _ hb => hb) d1 hx3) fun v21 w17 hv21 => ?_))
      obtain ⟨hv21, hb14⟩ := hv21
      have hw37 := Fg.vrep fg_Box hv21
      exact ⟨hb14, hw37⟩
     ·
      intro w18 D hS4 hd4
      have d2 : PV RBox (Add g1 M) ({ Sides := x3.Sides } : Box) (D 0) w18 := dpA hd4 0 Z
      have d4 : PV RBox (Add g1 M) x3 (D 2) w18 := dpA hd4 2 Z
      have hl18 := Le.no (Add g1 M) hS4
      have hC18 := hC12.no hS4
      have hw38 := VRep.mono (Le.no _ hS4) hw16
      have hu20 := UFz.no hu8 hS4
      have hw39 := VRep.mono (Le.no _ hS4) hw17
      have hu21 := UFz.no hu9 hS4
      have hw40 := VRep.mono (Le.no _ hS4) hw18
      have hs13 := Nat.le_trans hs7 hS4.size
      have ho11 := ho5.no hS4
      generalize hq2 : (D 0) = v22 at d2
      generalize hq3 : (D 2) = v23 at d4
      refine lw_sub (E' := [(54, v22), (56, v23), (1, v1p), (2, (.pointer (some p1))), (4, (.bool false)), (6, v8), (7, (.bool bb3)), (8, (Zw g1 0)), (9, v12), (10, v14), (11, (.bool bb4))]) ⟨congrArg some hq2, congrArg some hq3, Z, Z, Z, Z, Z, Z, Z, Z, Z, Zt⟩ ?_
      replace h := bind_some h
      obtain ⟨x8, hx8, h⟩ := h
      refine lw_op Z Z Z (ow_call Z Z Tryd.call26 (w_laws_eqBox (hG.mono (lz8.trans hl18)) hC18.old d2 d4 hx8) fun v24 w19 hv24 => ?_)
      obtain ⟨hv24, hb15⟩ := hv24
      have hl19 := Le.no (Add g1 M) hb15
      have hC19 := hC18.no hb15
      have hw41 := VRep.mono (Le.no _ hb15) hw38
      have hu22 := UFz.no hu20 hb15
      have hw42 := VRep.mono (Le.no _ hb15) hw39
      have hu23 := UFz.no hu21 hb15
      have hw43 := VRep.mono (Le.no _ hb15) hw40
      have hs14 := Nat.le_trans hs13 hb15.size
      have ho12 := ho11.no hb15
      obtain rfl := vbool_eq hv24
      refine lw_op Z Z Z (ow_not Z Z (lw_nil (ew_then ?_)))
      replace h := cond_some h
      rcases h with ⟨hc5, h⟩ | ⟨hc5, h⟩
      ·
       subst hc5
       refine cw_false Z (cw_skip (ew_then (cw_seq (cw_seq (cw_region (lw_op Z Z Z (ow_move Z Z (lw_op Z Z Z (ow_move Z Z ?_)))))))))
       have lz16 := ((lz8.trans hl18).trans hl19)
       refine lw_op Z Z Z (ow_call Z Z Tryd.call66 (wu_laws_toBoxS (hG.mono lz16) hC19.old (Y := (fun b => w19.heap.size ≤ b)) (fun _ hb => hb) (VRep.mono lz16 h1) hx4) fun v25 w20 hv25 => ?_)
       obtain ⟨hv25, hb16⟩ := hv25
       have hl20 := Le.no (Add g1 M) hb16
       have hC20 := hC19.no hb16
       have hw44 := VRep.mono (Le.no _ hb16) hw41
       have hu24 := UFz.no hu22 hb16
       have hw45 := VRep.mono (Le.no _ hb16) hw42
       have hu25 := UFz.no hu23 hb16
       have hw46 := VRep.mono (Le.no _ hb16) hw43
       have hs15 := Nat.le_trans hs14 hb16.size
       have ho13 := ho12.no hb16
       have hw47 := Fg.vrep (Fg.slice fg_Box) hv25
       have lz17 := (((lz15.trans hl18).trans hl19).trans hl20)
       replace h := bind_some h
       obtain ⟨x9, hx9, h⟩ := h
       refine lw_op Z Z Z (ow_call Z Z Tryd.call41 (w_laws_eqBoxS (hG.mono (lz16.trans hl20)) hC20.old (VRep.mono lz17 hw9) hw47 hx9) fun v26 w21 hv26 => ?_)
       obtain ⟨hv26, hb17⟩ := hv26
       have hl21 := Le.no (Add g1 M) hb17
       have hC21 := hC20.no hb17
       have hw48 := VRep.mono (Le.no _ hb17) hw44
       have hu26 := UFz.no hu24 hb17
       have hw49 := VRep.mono (Le.no _ hb17) hw45
       have hu27 := UFz.no hu25 hb17
       have hw50 := VRep.mono (Le.no _ hb17) hw46
       have hs16 := Nat.le_trans hs15 hb17.size
       have ho14 := ho13.no hb17
       obtain rfl := vbool_eq hv26
       refine lw_op Z Z Z (ow_not Z Z (lw_nil (ew_then ?_)))
       replace h := cond_some h
       rcases h with ⟨hc6, h⟩ | ⟨hc6, h⟩
       ·
        subst hc6
        refine cw_false Z (cw_skip (ew_then (cw_seq (cw_region (lw_op Z Z Z (ow_assign Z Z (lw_nil (ew_then (cw_seq (cw_region (lw_op Z Z Z (ow_loadOwnA Z Z Z ho14 (Tryd.isAgg48 _) (Tryd.sizeOf48 _) Z (lw_op Z Z Z (ow_move Z Z ?_))))))))))))))
        replace h := bind_some h
        obtain ⟨x10, hx10, h⟩ := h
        refine lw_op Z Z Z (ow_call Z Z Tryd.call27 (wm_laws_markBox hu26 hw48 hx10) fun v27 w22 hv27 => ?_)
        obtain ⟨rfl, hmk1⟩ := hv27
        have hl22 := Le.reset (((((((((hl7.trans hl8).trans hl9).trans hl10).trans hl11).trans hl12).trans hl18).trans hl19).trans hl20).trans hl21) hmk1.bx (fun b h => Nat.le_trans hs1 h.1)
        have hC22 := Cx.reset hC6 hC21 hmk1.bx (fun b h => Nat.le_trans hC6.bx.size h.1) (Nat.le_trans (((((((((hl7.trans hl8).trans hl9).trans hl10).trans hl11).trans hl12).trans hl18).trans hl19).trans hl20).trans hl21).size hmk1.bx.size)
        have hw52 := VRep.other hw49 hmk1.bx (fun b h1 h2 => Nat.lt_irrefl _ (Nat.lt_of_lt_of_le h1.2.1 (Nat.le_trans hs2 h2.1)))
        have hu28 := UFz.other hu27 hmk1.bx (fun b h1 h2 => Nat.lt_irrefl _ (Nat.lt_of_lt_of_le h1.2.1 (Nat.le_trans hs2 h2.1)))
        have hw53 := VRep.other hw50 hmk1.bx (fun b h1 h2 => Nat.lt_irrefl _ (Nat.lt_of_lt_of_le h1.2.1 (Nat.le_trans hs4 h2.1)))
        have hs17 := Nat.le_trans hs16 hmk1.bx.size
        refine lw_op Z Z Z (ow_assign Z Z (lw_nil (ew_then (cw_seq (cw_region (lw_op Z Z Z (ow_move Z Z (lw_op Z Z Z (ow_move Z Z ?_)))))))))
        replace h := bind_some h
        obtain ⟨x11, hx11, h⟩ := h
        refine lw_op Z Z Z (ow_call Z Z Tryd.call44 (wm_laws_markBoxS hu28 hw52 hx11) fun v28 w23 hv28 => ?_)
        obtain ⟨rfl, hmk2⟩ := hv28
        have hl23 := Le.reset hl22 hmk2.bx (fun b h => Nat.le_trans hs3 h.1)
        have hC23 := Cx.reset hC6 hC22 hmk2.bx (fun b h => Nat.le_trans hC9.bx.size h.1) (Nat.le_trans hl22.size hmk2.bx.size)
        have hw55 := VRep.other hw53 hmk2.bx (fun b h1 h2 => Nat.lt_irrefl _ (Nat.lt_of_lt_of_le h1.2.1 (Nat.le_trans hs5 h2.1)))
        have hs18 := Nat.le_trans hs17 hmk2.bx.size
        have hw56 := VRep.mono (Le.sub _ (show ∀ b, M b → NotY (YB (fun b => w10.heap.size ≤ b) w11) b from fun b h1 h2 => Nat.lt_irrefl _ (Nat.lt_of_lt_of_le (hC6.old b h1) (Nat.le_trans hs6 h2.1)))) (Fg.vrep fgBoxSS hw55)
        refine lw_op Z Z Z (ow_assign Z Z (lw_nil (ew_then (cw_seq (cw_seq (cw_region (lw_op Z Z Z (ow_move Z Z (lw_op Z Z Z (ow_lss Z Z Z fun bb6 hbb6 => lw_op Z Z Z (ow_move Z Z ?_)))))))))))
        replace h := cond_some h
        rcases h with ⟨hc7, h⟩ | ⟨hc7, h⟩
        ·
         obtain rfl := hbb6.trans hc7
         refine lw_off Z Z Z Z Z Z (lw_off Z Z Z Z Z Z (lw_off Z Z Z Z Z Z (lw_off Z Z Z Z Z Z (lw_op Z Z Z (ow_pickT Z Z Z (lw_op Z Z Z (ow_move Z Z (lw_off Z Z Z Z Z Z (lw_off Z Z Z Z Z Z (lw_off Z Z Z Z Z Z (lw_op Z Z Z (ow_pickT Z Z Z (lw_nil (ew_then (cw_true Z (cw_seq (cw_region (lw_op Z Z Z (ow_assign Z Z (lw_nil (ew_then (cw_ret (ew_thenR ?_)))))))))))))))))))))))
         obtain rfl := sj h
         exact ew_ret (res1 Z (.tmp Z)) ⟨_, Z, ((vbool _)), hC23.bx⟩
        ·
         obtain rfl := hbb6.trans hc7
         refine lw_on Z Z Z Z Z Z (ow_move Z Z (lw_on Z Z Z Z Z Z (ow_move Z Z ?_)))
         have lz19 := ((((((hl1.trans hl2).trans hl3).trans hl4).trans hl5).trans hl6).trans hl23)
         refine lw_on Z Z Z Z Z Z (ow_call Z Z Tryd.call41 (w_laws_eqBoxS (hG.mono lz19) hC23.old hw56 (VRep.mono hl23 hv8) hx7) fun v29 w24 hv29 => ?_)
         obtain ⟨hv29, hb18⟩ := hv29
         have hl24 := Le.no M hb18
         have hC24 := hC23.no hb18
         have hw57 := VRep.mono (Le.no _ hb18) hw55
         have hs19 := Nat.le_trans hs18 hb18.size
         obtain rfl := vbool_eq hv29
         refine lw_on Z Z Z Z Z Z (ow_not Z Z (lw_op Z Z Z (ow_pickF Z Z Z (lw_op Z Z Z (ow_move Z Z (lw_on Z Z Z Z Z Z (ow_move Z Z (lw_on Z Z Z Z Z Z (ow_move Z Z (lw_on Z Z Z Z Z Z (ow_neqB Z Z Z Tryd.underlying4 fun bb7 hbb7 => ?_)))))))))))
         have hbb7' : bb7 = (x6.2 != x5.2) := hbb7.trans (by rw [hbb4, hbb3])
         obtain rfl := hbb7'.trans hc4
         refine lw_op Z Z Z (ow_pickF Z Z Z (lw_nil (ew_then (cw_false Z (cw_skip (ew_then (cw_seq (cw_region (lw_op Z Z Z (ow_assign Z Z (lw_nil (ew_then (cw_seq (cw_region (lw_op Z Z Z (ow_move Z Z (lw_op Z Z Z (ow_move Z Z ?_))))))))))))))))))
         replace h := bind_some h
         obtain ⟨x12, hx12, h⟩ := h
         refine lw_op Z Z Z (ow_call Z Z Tryd.call44 (we_laws_markBoxS (fun b e => Nat.lt_of_lt_of_le e.2 hs19) hw57 hx12) fun v30 w25 hv30 => ?_)
         obtain ⟨rfl, hw58, hb19⟩ := hv30
         have hl25 := Le.reset (hl23.trans hl24) hb19 (fun b h => Nat.le_trans hs6 h.1)
         have hC25 := Cx.reset hC6 hC24 hb19 (fun b h => Nat.le_trans hC10.bx.size h.1) (Nat.le_trans (hl23.trans hl24).size hb19.size)
         have hw59 := VRep.mono (Le.sub _ (show ∀ b, M b → NotY (YB (fun b => w10.heap.size ≤ b) w11) b from fun b h1 h2 => Nat.lt_irrefl _ (Nat.lt_of_lt_of_le (hC6.old b h1) (Nat.le_trans hs6 h2.1)))) (Fg.vrep fgBoxSS hw58)
         refine lw_op Z Z Z (ow_assign Z Z (lw_nil (ew_then (cw_seq (cw_region (lw_op Z Z Z (ow_assign Z Z (lw_nil (ew_then (cw_seq (cw_region (lw_op Z Z Z (ow_move Z Z (lw_op Z Z Z (ow_move Z Z ?_)))))))))))))))
         replace h := bind_some h
         obtain ⟨x13, hx13, h⟩ := h
         have lz20 := ((((((hl1.trans hl2).trans hl3).trans hl4).trans hl5).trans hl6).trans hl25)
         refine lw_op Z Z Z (ow_call Z Z Tryd.call45 (w_laws_heldBoxS (hG.mono lz20) hC25.old hw59 hx13) fun v31 w26 hv31 => ?_)
         obtain ⟨hv31, hb20⟩ := hv31
         have hl26 := Le.no M hb20
         have hC26 := hC25.no hb20
         obtain rfl := vint_eq hv31
         refine lw_op Z Z Z (ow_assign Z Z (lw_nil (ew_then (cw_seq (cw_seq (cw_region (lw_op Z Z Z (ow_move Z Z (lw_op Z Z Z (ow_lss Z Z Z fun bb8 hbb8 => lw_nil (ew_then ?_)))))))))))
         replace h := cond_some h
         rcases h with ⟨hc8, h⟩ | ⟨hc8, h⟩
         ·
          obtain rfl := hbb8.trans hc8
          refine cw_true Z (cw_seq (cw_region (lw_op Z Z Z (ow_assign Z Z (lw_nil (ew_then (cw_ret (ew_thenR ?_))))))))
          obtain rfl := sj h
          exact ew_ret (res1 Z (.tmp Z)) ⟨_, Z, ((vbool _)), hC26.bx⟩
         ·
          obtain rfl := hbb8.trans hc8
          refine cw_false Z (cw_skip (ew_then (cw_seq (cw_seq (cw_region (lw_op Z Z Z (ow_move Z Z (lw_op Z Z Z (ow_move Z Z (lw_op Z Z Z (ow_neqI Z Z Z fun bb9 hbb9 => lw_nil (ew_then ?_))))))))))))
          replace h := cond_some h
          rcases h with ⟨hc9, h⟩ | ⟨hc9, h⟩
          ·
           obtain rfl := hbb9.trans hc9
           refine cw_true Z (cw_seq (cw_region (lw_op Z Z Z (ow_assign Z Z (lw_nil (ew_then (cw_ret (ew_thenR ?_))))))))
           obtain rfl := sj h
           exact ew_ret (res1 Z (.tmp Z)) ⟨_, Z, ((vbool _)), hC26.bx⟩
          ·
           obtain rfl := hbb9.trans hc9
           refine cw_false Z (cw_skip (ew_then (cw_seq (cw_region ?_))))
           have lz21 := ((((((hl2.trans hl3).trans hl4).trans hl5).trans hl6).trans hl25).trans hl26)
           refine lw_op Z Z Z (ow_load (R := RBox) Z Z (ARep.mono lz21 hp1) (Tryd.sizeOf42 _) (Tryd.isAgg42 _) fun v32 hv32 => lw_op Z Z Z (ow_call Z Z Tryd.call23 (wu_laws_toBox (hG.mono (lz20.trans hl26)) hC26.old (Y := (fun b => w26.heap.size ≤ b)) (fun _ hb => hb) hv32 hx3) fun v33 w27 hv33 => ?_))
           obtain ⟨hv33, hb21⟩ := hv33
           have hl27 := Le.no M hb21
           have hC27 := hC26.no hb21
           have hw60 := Fg.vrep fg_Box hv33
           refine lw_op Z Z Z (ow_move Z Z ?_)
           have lz22 := ((lz20.trans hl26).trans hl27)
           refine lw_op Z Z Z (ow_call Z Z Tryd.call66 (wu_laws_toBoxS (hG.mono lz22) hC27.old (Y := (fun b => w27.heap.size ≤ b)) (fun _ hb => hb) (VRep.mono lz22 h1) hx4) fun v34 w28 hv34 => ?_)
           obtain ⟨hv34, hb22⟩ := hv34
           have hl28 := Le.no M hb22
           have hC28 := hC27.no hb22
           have hw61 := Fg.vrep (Fg.slice fg_Box) hv34
           replace h := bind_some h
           obtain ⟨x14, hx14, h⟩ := h
           refine lw_op Z Z Z (ow_call Z Z Tryd.call67 (wt_impl_RegionLess (hG.mono (lz22.trans hl28)) hC28.old (Y := (fun b => w28.heap.size ≤ b)) (fun _ hb => hb) (VRep.mono hl28 hw60) hw61 hx14) fun v35 w29 hv35 => ?_)
           obtain ⟨⟨v36, v37, rfl, hv36, hv37⟩, hb23⟩ := hv35
           have hl29 := Le.no M hb23
           have hC29 := hC28.no hb23
           have hw62 := Fg.vrep (Fg.in_ fgBoxSS) hv36
           obtain ⟨bb10, hbb10, rfl⟩ := vbool_ex hv37
           refine lw_op Z Z Z (ow_move Z Z (lw_op Z Z Z (ow_extract Z Z Z (lw_op Z Z Z (ow_extract Z Z Z (lw_op Z Z Z (ow_assign Z Z (lw_op Z Z Z (ow_assign Z Z (lw_nil (ew_then (cw_seq (cw_seq (cw_region (lw_op Z Z Z (ow_move Z Z (lw_op Z Z Z (ow_move Z Z ?_))))))))))))))))))
           have lz23 := ((((hl25.trans hl26).trans hl27).trans hl28).trans hl29)
           replace h := bind_some h
           obtain ⟨x15, hx15, h⟩ := h
           have lz24 := ((lz22.trans hl28).trans hl29)
           refine lw_op Z Z Z (ow_call Z Z Tryd.call41 (w_laws_eqBoxS (hG.mono lz24) hC29.old hw62 (VRep.mono lz23 hv8) hx15) fun v38 w30 hv38 => ?_)
           obtain ⟨hv38, hb24⟩ := hv38
           have hl30 := Le.no M hb24
           have hC30 := hC29.no hb24
           obtain rfl := vbool_eq hv38
           refine lw_op Z Z Z (ow_not Z Z (lw_op Z Z Z (ow_move Z Z ?_)))
           replace h := cond_some h
           rcases h with ⟨hc10, h⟩ | ⟨hc10, h⟩
           ·
            subst hc10
            refine lw_on Z Z Z Z Z Z (ow_move Z Z (lw_on Z Z Z Z Z Z (ow_move Z Z (lw_on Z Z Z Z Z Z (ow_neqB Z Z Z Tryd.underlying4 fun bb11 hbb11 => ?_)))))
            have hbb11' : bb11 = (x14.2 != x5.2) := hbb11.trans (by rw [hbb10, hbb3])
            refine lw_op Z Z Z (ow_pickF Z Z Z (lw_nil (ew_then ?_)))
            replace h := cond_some h
            rcases h with ⟨hc11, h⟩ | ⟨hc11, h⟩
            ·
             obtain rfl := hbb11'.trans hc11
             refine cw_true Z (cw_seq (cw_region (lw_op Z Z Z (ow_assign Z Z (lw_nil (ew_then (cw_ret (ew_thenR ?_))))))))
             obtain rfl := sj h
             exact ew_ret (res1 Z (.tmp Z)) ⟨_, Z, ((vbool _)), hC30.bx⟩
            ·
             obtain rfl := hbb11'.trans hc11
             refine cw_false Z (cw_skip (ew_then (cw_seq (cw_region (lw_op Z Z Z (ow_assign Z Z (lw_nil (ew_then (cw_seq (cw_region (lw_op Z Z Z (ow_move Z Z (lw_op Z Z Z (ow_move Z Z ?_))))))))))))))
             have lz25 := ((((hl26.trans hl27).trans hl28).trans hl29).trans hl30)
             refine lw_op Z Z Z (ow_call Z Z Tryd.call45 (w_laws_heldBoxS (hG.mono (lz24.trans hl30)) hC30.old (VRep.mono lz25 hw59) hx13) fun v39 w31 hv39 => ?_)
             obtain ⟨hv39, hb25⟩ := hv39
             have hC31 := hC30.no hb25
             obtain rfl := vint_eq hv39
             refine lw_op Z Z Z (ow_assign Z Z (lw_nil (ew_then (cw_seq (cw_seq (cw_region (lw_op Z Z Z (ow_move Z Z (lw_op Z Z Z (ow_lss Z Z Z fun bb12 hbb12 => ?_))))))))))
             obtain rfl := hbb12.trans hc8
             refine lw_nil (ew_then (cw_false Z (cw_skip (ew_then (cw_seq (cw_seq (cw_region (lw_op Z Z Z (ow_move Z Z (lw_op Z Z Z (ow_move Z Z (lw_op Z Z Z (ow_neqI Z Z Z fun bb13 hbb13 => ?_)))))))))))))
             obtain rfl := hbb13.trans hc9
             refine lw_nil (ew_then (cw_false Z (cw_skip (ew_then (cw_seq (cw_region (lw_op Z Z Z (ow_assign Z Z (lw_nil (ew_then (cw_ret ?_)))))))))))
             obtain rfl := sj h
             exact ew_ret (res1 Z (.tmp Z)) ⟨_, Z, ((vbool _)), hC31.bx⟩
           ·
            subst hc10
            refine lw_off Z Z Z Z Z Z (lw_off Z Z Z Z Z Z (lw_off Z Z Z Z Z Z (lw_op Z Z Z (ow_pickT Z Z Z (lw_nil (ew_then (cw_true Z (cw_seq (cw_region (lw_op Z Z Z (ow_assign Z Z (lw_nil (ew_then (cw_ret (ew_thenR ?_)))))))))))))))
            obtain rfl := sj h
            exact ew_ret (res1 Z (.tmp Z)) ⟨_, Z, ((vbool _)), hC30.bx⟩
       ·
        subst hc6
        refine cw_true Z (cw_seq (cw_region (lw_op Z Z Z (ow_assign Z Z (lw_nil (ew_then (cw_ret (ew_thenR ?_))))))))
        obtain rfl := sj h
        exact ew_ret (res1 Z (.tmp Z)) ⟨_, Z, ((vbool _)), hC21.bx⟩
      ·
       subst hc5
       refine cw_true Z (cw_seq (cw_region (lw_op Z Z Z (ow_assign Z Z (lw_nil (ew_then (cw_ret (ew_thenR ?_))))))))
       obtain rfl := sj h
       exact ew_ret (res1 Z (.tmp Z)) ⟨_, Z, ((vbool _)), hC19.bx⟩
   ·
    subst hc3
    refine lw_off Z Z Z Z Z Z (lw_off Z Z Z Z Z Z (lw_off Z Z Z Z Z Z (lw_op Z Z Z (ow_pickT Z Z Z (lw_nil (ew_then (cw_true Z (cw_seq (cw_region (lw_op Z Z Z (ow_assign Z Z (lw_nil (ew_then (cw_ret (ew_thenR ?_)))))))))))))))
    obtain rfl := sj h
    exact ew_ret (res1 Z (.tmp Z)) ⟨_, Z, ((vbool _)), hC12.bx⟩


end Go.PF
