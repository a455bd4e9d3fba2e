/- The walks; no condition. -/
import Derived.Test.YtadlmencjbangaaDoorProg
import Derived.Test.YtadlmencjbangaaDoorWk0
import Derived.Test.YtadlmencjbangaaDoorPFSeq
set_option maxRecDepth 100000
set_option maxHeartbeats 4000000
namespace Go.PF
open Go Go.RowKit Go.Proofs

theorem w_impl_sides_empty {w : World} {M : Nat → Prop} (_hG : ARep (RArr 4 RShape) w M shapes ⟨0, 0, none⟩) (hO : ∀ b, M b → b < w.heap.size) {v0p : Value} {a_s : List (List Span)} (h0 : VRep (RArr 4 (RSlice RSpan)) w M a_s v0p) {r : Bool} (h : F.impl_sides_empty a_s = some r) :
  Calls Tryd.prog 43 [v0p].toArray w fun e w' => ∃ v, e = .returned v ∧ VRep RBool w' M r v ∧ BX No w w' := by
 have hC : Cx No w M w M := Cx.start hO (fun _ e => e.elim)
 clear _hG
 refine walk (N := 13) Tryd.func43 Z Tryd.ntmps43 Z (cw_seq (Zr (Zo Z Z Z (ow_box (R := (RArr 4 (RSlice RSpan))) Z Z h0 hC fun p1 w1 hp1 hb1 hl1 hC1 => Zo Z Z Z (Za Z Z (Zn (Ze (cw_seq (cw_seq (Zr (Zo Z Z Z (Zl (R := (RArr 4 (RSlice RSpan))) Z Z hp1 (Tryd.sizeOf61 _) (Tryd.isAgg61 _) fun v1 hv1 => Zo Z Z Z (Zm Z Z (Zn (Ze ?_)))))))))))))))
 replace h := bind_some h
 obtain ⟨lr1, hlr1, h⟩ := h
 refine cw_for hlr1 (fun s a w' => ∃ (M' : Nat → Prop), Fits 13 [(5, v1), (6, (Zv s))] a ∧ Le w1 M w' M' ∧ Cx No w M w' M') ?_ ?_ ?_
 · exact fun a ha => ⟨M, ha.sub ⟨Z, Z, Zt⟩, Le.refl _ _, hC1⟩
 ·
  rintro k1 a w2 sr1 ⟨M1, hF1, hl2, hC2⟩ hb2 hR1
  refine cw_at (E := [(5, v1), (6, (Zv k1))]) hF1 (cw_seq (Zr (Zo Z Z Z (ow_lss Z Z Z fun bb1 hbb1 => Zn (Ze (cw_seq ?_))))))
  replace hb2 := Zc hb2
  rcases hb2 with ⟨hc1, hb2⟩ | ⟨hc1, hb2⟩
  ·
   obtain rfl := hbb1.trans hc1
   refine cw_true Z (cw_skip (Ze (cw_seq (cw_block (cw_seq (Zr ?_))))))
   replace hb2 := bind_some hb2
   obtain ⟨x1, hx1, hb2⟩ := hb2
   refine Zo Z Z Z (ow_index (R := (RSlice RSpan)) Z Z Z (VRep.mono hl2 hv1) Tryd.underlying61 (Tryd.sizeOf59 _) (Tryd.isAgg59 _) hx1 fun v3 hv3 => Zo Z Z Z (Za Z Z (Zn (Ze (cw_seq (Zr (Zo Z Z Z (Zm Z Z (Zo Z Z Z (ow_len Z Z hv3 Tryd.underlying59 Z (Zo Z Z Z (ow_eqlI Z Z Z fun bb2 hbb2 => Zn (Ze ?_)))))))))))))
   replace hb2 := Zc hb2
   rcases hb2 with ⟨hc2, hb2⟩ | ⟨hc2, hb2⟩
   ·
    obtain rfl := hbb2.trans hc2
    refine cw_true Z (cw_seq (Zr (Zo Z Z Z (Za Z Z (Zn (Ze (Zy (ew_blockR (Zh (Zh (ew_blockR (ew_brkR (Zh ?_)))))))))))))
    have e1 := hR1 _ (sj hb2).symm
    subst e1
    obtain rfl := sj h
    exact ew_ret (res1 Z (.tmp Z)) ⟨_, Z, ((vbool _)), hC2.bx⟩
   ·
    obtain rfl := hbb2.trans hc2
    exact Zu Z (cw_skip (ew_blockN (Ze (Zr (Zo Z Z Z (ow_add Z Z Z (Zo Z Z Z (Zm Z Z (Zn (ew_nxt (W (k1 + 1)) hb2 fun a ha => ⟨M1, (ha.sub ⟨Z, Z, Zt⟩), hl2, hC2⟩))))))))))
  ·
   obtain rfl := hbb1.trans hc1
   exact Zu Z (cw_exit (ew_thenX (ew_thenX (ew_blockX (ew_brk k1 hb2 fun a ha => ⟨M1, (ha.sub ⟨Z, Z, Zt⟩), hl2, hC2⟩)))))
 ·
  rintro k2 a w3 hlr2 ⟨M2, hF2, hl3, hC3⟩
  subst hlr2
  refine ew_at (E := [(5, v1), (6, (Zv k2))]) hF2 (Ze (cw_seq (Zr (Zo Z Z Z (Za Z Z (Zn (Ze (Zy ?_))))))))
  obtain rfl := sj h
  exact ew_ret (res1 Z (.tmp Z)) ⟨_, Z, ((vbool _)), hC3.bx⟩

theorem w_impl_BoxEmpty {w : World} {M : Nat → Prop} (hG : ARep (RArr 4 RShape) w M shapes ⟨0, 0, none⟩) (hO : ∀ b, M b → b < w.heap.size) {v0p : Value} {a_b : Box} (h0 : VRep RBox w M a_b v0p) {r : Bool} (h : F.impl_BoxEmpty a_b = some r) :
  Calls Tryd.prog 16 [v0p].toArray w fun e w' => ∃ v, e = .returned v ∧ VRep RBool w' M r v ∧ BX No w w' := by
 have hC : Cx No w M w M := Cx.start hO (fun _ e => e.elim)
 refine walk (N := 10) Tryd.func16 Z Tryd.ntmps16 Z (cw_seq (Zr (Zo Z Z Z (ow_box (R := RBox) Z Z h0 hC fun p1 w1 hp1 hb1 hl1 hC1 => Zo Z Z Z (Za Z Z (Zn (Ze (cw_seq (Zr (Zo Z Z Z (Zl (R := RBox) Z Z hp1 (Tryd.sizeOf25 _) (Tryd.isAgg25 _) fun v1 hv1 => ?_)))))))))))
 replace h := bind_some h
 obtain ⟨x1, hx1, h⟩ := h
 refine Zo Z Z Z (Zk Z Z Tryd.call31 (w_impl_BoxValid (hG.mono hl1) hC1.old hv1 hx1) fun v2 w2 hv2 => ?_)
 obtain ⟨hv2, hb2⟩ := hv2
 have hl2 := Le.no M hb2
 have hC2 := hC1.no hb2
 obtain rfl := vbool_eq hv2
 refine Zo Z Z Z (Zm Z Z ?_)
 replace h := Zc h
 rcases h with ⟨hc1, h⟩ | ⟨hc1, h⟩
 ·
  subst hc1
  refine lw_on Z Z Z Z Z Z (Zl (R := RBox) Z Z (ARep.mono hl2 hp1) (Tryd.sizeOf25 _) (Tryd.isAgg25 _) fun v3 hv3 => ?_)
  replace h := bind_some h
  obtain ⟨x2, hx2, h⟩ := h
  refine lw_on Z Z Z Z Z Z (Zk Z Z Tryd.call32 (w_impl_sidesOf (hG.mono (hl1.trans hl2)) hC2.old hv3 hx2) fun v4 w3 hv4 => ?_)
  obtain ⟨hv4, hb3⟩ := hv4
  have hl3 := Le.no M hb3
  have hC3 := hC2.no hb3
  replace h := bind_some h
  obtain ⟨x3, hx3, h⟩ := h
  have lz1 := ((hl1.trans hl2).trans hl3)
  refine lw_on Z Z Z Z Z Z (Zk Z Z Tryd.call43 (w_impl_sides_empty (hG.mono lz1) hC3.old hv4 hx3) fun v5 w4 hv5 => ?_)
  obtain ⟨hv5, hb4⟩ := hv5
  have hC4 := hC3.no hb4
  obtain rfl := vbool_eq hv5
  refine Zo Z Z Z (ow_pickT Z Z Z (Zo Z Z Z (Za Z Z (Zn (Ze (Zy ?_))))))
  obtain rfl := sj h
  exact ew_ret (res1 Z (.tmp Z)) ⟨_, Z, ((vbool _)), hC4.bx⟩
 ·
  subst hc1
  refine lw_off Z Z Z Z Z Z (lw_off Z Z Z Z Z Z (lw_off Z Z Z Z Z Z (Zo Z Z Z (ow_pickF Z Z Z (Zo Z Z Z (Za Z Z (Zn (Ze (Zy ?_)))))))))
  obtain rfl := sj h
  exact ew_ret (res1 Z (.tmp Z)) ⟨_, Z, ((vbool _)), hC2.bx⟩

theorem w_impl_stretch {w : World} {M : Nat → Prop} (_hG : ARep (RArr 4 RShape) w M shapes ⟨0, 0, none⟩) (hO : ∀ b, M b → b < w.heap.size) {v0p : Value} {a_rest : List Span} (h0 : VRep (RSlice RSpan) w M a_rest v0p) {a_at : Int} {a_top : Int} {r : Bool × Int} (h : F.impl_stretch a_rest a_at a_top = some r) :
  Calls Tryd.prog 98 [v0p, (.int .i64 a_at), (.int .i64 a_top)].toArray w fun e w' => ∃ v, e = .returned v ∧ (∃ u0 u1, v = .tuple #[u0, u1] ∧ VRep RBool w' M r.1 u0 ∧ VRep RInt w' M r.2 u1) ∧ BX No w w' := by
 have hC : Cx No w M w M := Cx.start hO (fun _ e => e.elim)
 clear _hG
 refine walk (N := 27) Tryd.func98 Z Tryd.ntmps98 Z (cw_seq (Zr (Zo Z Z Z (Za Z Z (Zo Z Z Z (Za Z Z (Zn (Ze (cw_seq (cw_seq (Zr (Zo Z Z Z (Zm Z Z (Zo Z Z Z (ow_len Z Z h0 Tryd.underlying59 Z (Zo Z Z Z (ow_eqlI Z Z Z fun bb1 hbb1 => Zn (Ze ?_))))))))))))))))))
 replace h := Zc h
 rcases h with ⟨hc1, h⟩ | ⟨hc1, h⟩
 ·
  obtain rfl := hbb1.trans hc1
  refine cw_true Z (cw_seq (Zr (Zo Z Z Z (Zm Z Z (Zo Z Z Z (Za Z Z (Zo Z Z Z (Za Z Z (Zn (Ze (Zy (Zh ?_))))))))))))
  obtain rfl := sj h
  exact ew_ret (res2 Z (.tmp Z) (.tmp Z)) ⟨_, Z, ⟨_, _, Z, ((vbool _)), ((vint _))⟩, hC.bx⟩
 ·
  obtain rfl := hbb1.trans hc1
  refine Zu Z (cw_skip (Ze (cw_seq (cw_seq (Zr (Zo Z Z Z (Zm Z Z (Zo Z Z Z (Zm Z Z ?_)))))))))
  replace h := bind_some h
  obtain ⟨x1, hx1, h⟩ := h
  refine Zo Z Z Z (Zx (R := RSpan) Z Z Z h0 Tryd.underlying59 (Tryd.sizeOf69 _) hx1 fun p1 hp1 => Zo Z Z Z (Zf Z Z Tryd.underlying69 Z (Tryd.sizeOf3 _) (Zo Z Z Z (Zl (R := RInt) Z Z (hp1.fld fld_Span_Lo) (Tryd.sizeOf3 _) (Tryd.isAgg3 _) fun v1 hv1 => ?_))))
  obtain rfl := Zi hv1
  refine Zo Z Z Z (ow_lss Z Z Z fun bb2 hbb2 => Zn (Ze ?_))
  replace h := Zc h
  rcases h with ⟨hc2, h⟩ | ⟨hc2, h⟩
  ·
   obtain rfl := hbb2.trans hc2
   refine cw_true Z (cw_seq (cw_sub (E' := [(0, v0p), (7, (Zv 0))]) ⟨Z, Z, Zt⟩ (cw_drawQ 6 [PV (RSlice RSpan) M a_rest, PA RSpan M x1, PA RInt M x1.Lo, PEq (Zv x1.Lo), PEq (Zv (W (x1.Lo - 1))), PEq (.bool false)] (by kernel_rfl) Z (by kernel_rfl) ⟨PV.mono _ _ _, PA.mono _ _ _, PA.mono _ _ _, Zq, Zq, Zq, Zt⟩ ⟨?_, ?_, ?_, ?_, ?_, ?_, Zt⟩ ?_)))
   ·
    intro w1 D hS1 hd1
    have hl1 := Le.no M hS1
    exact Zs (E' := [(0, v0p)]) ⟨Z, Zt⟩ (Zp Z (Zm Z Z ⟨BX.refl _ _, (VRep.mono hl1 h0)⟩))
   ·
    intro w2 D hS2 hd2
    have d1 : PV (RSlice RSpan) M a_rest (D 0) w2 := dpA hd2 0 Z
    generalize hq1 : (D 0) = v3 at d1
    exact Zs (E' := [(18, v3)]) ⟨congrArg some hq1, Zt⟩ (Zp Z (Zx (R := RSpan) Z Z Z d1 Tryd.underlying59 (Tryd.sizeOf69 _) hx1 fun p3 hp3 => ⟨BX.refl _ _, ⟨_, Z, hp3⟩⟩))
   ·
    intro w3 D hS3 hd3
    have d2 : PA RSpan M x1 (D 1) w3 := dpA hd3 1 Z
    obtain ⟨p4, e1, ha1⟩ := d2
    exact Zs (E' := [(19, (.pointer (some p4)))]) ⟨congrArg some e1, Zt⟩ (Zp Z (Zf Z Z Tryd.underlying69 Z (Tryd.sizeOf3 _) ⟨BX.refl _ _, ⟨_, Z, (ha1.fld fld_Span_Lo)⟩⟩))
   ·
    intro w4 D hS4 hd4
    have d3 : PA RInt M x1.Lo (D 2) w4 := dpA hd4 2 Z
    obtain ⟨p5, e2, ha2⟩ := d3
    refine Zs (E' := [(20, (.pointer (some p5)))]) ⟨congrArg some e2, Zt⟩ (Zp Z (Zl (R := RInt) Z Z ha2 (Tryd.sizeOf3 _) (Tryd.isAgg3 _) fun v4 hv4 => ?_))
    obtain rfl := Zi hv4
    exact Zb
   · exact fun w5 D hS5 hd5 => Zs (E' := [(21, (Zv x1.Lo))]) ⟨dpE hd5 3 Z Z, Zt⟩ (Zp Z (ow_sub Z Z Z Zb))
   · exact fun w6 D hS6 hd6 => Zs (E' := []) trivial (Zp Z (Za Z Z Zb))
   ·
    intro w7 D hS7 hd7
    have hC7 := hC.no hS7
    refine lw_sub (E' := [(22, (Zv (W (x1.Lo - 1)))), (6, (.bool false)), (0, v0p), (7, (Zv 0))]) ⟨dpE hd7 4 Z Z, dpE hd7 5 Z Z, Z, Z, Zt⟩ (Zo Z Z Z (Za Z Z (Zn (Ze (Zy (Zh ?_))))))
    obtain rfl := sj h
    exact ew_ret (res2 Z (.tmp Z) (.tmp Z)) ⟨_, Z, ⟨_, _, Z, ((vbool _)), ((vint _))⟩, hC7.bx⟩
  ·
   obtain rfl := hbb2.trans hc2
   refine Zu Z (cw_skip (Ze (cw_seq (cw_sub (E' := [(0, v0p), (7, (Zv 0))]) ⟨Z, Z, Zt⟩ (cw_drawQ 5 [PV (RSlice RSpan) M a_rest, PA RSpan M x1, PA RInt M x1.Hi, PEq (Zv x1.Hi), PEq (.bool true)] (by kernel_rfl) Z (by kernel_rfl) ⟨PV.mono _ _ _, PA.mono _ _ _, PA.mono _ _ _, Zq, Zq, Zt⟩ ⟨?_, ?_, ?_, ?_, ?_, Zt⟩ ?_)))))
   ·
    intro w8 D hS8 hd8
    have hl8 := Le.no M hS8
    exact Zs (E' := [(0, v0p)]) ⟨Z, Zt⟩ (Zp Z (Zm Z Z ⟨BX.refl _ _, (VRep.mono hl8 h0)⟩))
   ·
    intro w9 D hS9 hd9
    have d11 : PV (RSlice RSpan) M a_rest (D 0) w9 := dpA hd9 0 Z
    generalize hq2 : (D 0) = v6 at d11
    exact Zs (E' := [(23, v6)]) ⟨congrArg some hq2, Zt⟩ (Zp Z (Zx (R := RSpan) Z Z Z d11 Tryd.underlying59 (Tryd.sizeOf69 _) hx1 fun p7 hp7 => ⟨BX.refl _ _, ⟨_, Z, hp7⟩⟩))
   ·
    intro w10 D hS10 hd10
    have d12 : PA RSpan M x1 (D 1) w10 := dpA hd10 1 Z
    obtain ⟨p8, e3, ha3⟩ := d12
    exact Zs (E' := [(24, (.pointer (some p8)))]) ⟨congrArg some e3, Zt⟩ (Zp Z (Zf Z Z Tryd.underlying69 Z (Tryd.sizeOf3 _) ⟨BX.refl _ _, ⟨_, Z, (ha3.fld fld_Span_Hi)⟩⟩))
   ·
    intro w11 D hS11 hd11
    have d13 : PA RInt M x1.Hi (D 2) w11 := dpA hd11 2 Z
    obtain ⟨p9, e4, ha4⟩ := d13
    refine Zs (E' := [(25, (.pointer (some p9)))]) ⟨congrArg some e4, Zt⟩ (Zp Z (Zl (R := RInt) Z Z ha4 (Tryd.sizeOf3 _) (Tryd.isAgg3 _) fun v7 hv7 => ?_))
    obtain rfl := Zi hv7
    exact Zb
   · exact fun w12 D hS12 hd12 => Zs (E' := []) trivial (Zp Z (Za Z Z Zb))
   ·
    intro w13 D hS13 hd13
    have hC13 := hC.no hS13
    refine lw_sub (E' := [(26, (Zv x1.Hi)), (6, (.bool true)), (0, v0p), (7, (Zv 0))]) ⟨dpE hd13 3 Z Z, dpE hd13 4 Z Z, Z, Z, Zt⟩ (Zo Z Z Z (Za Z Z (Zn (Ze (Zy ?_)))))
    obtain rfl := sj h
    exact ew_ret (res2 Z (.tmp Z) (.tmp Z)) ⟨_, Z, ⟨_, _, Z, ((vbool _)), ((vint _))⟩, hC13.bx⟩

theorem w_impl_inFirstOnly {w : World} {M : Nat → Prop} (_hG : ARep (RArr 4 RShape) w M shapes ⟨0, 0, none⟩) (hO : ∀ b, M b → b < w.heap.size) {b0 a_inA : Bool} (h0 : b0 = a_inA) {b1 a_inB : Bool} (h1 : b1 = a_inB) {r : Bool} (h : F.impl_inFirstOnly a_inA a_inB = some r) :
  Calls Tryd.prog 79 [(.bool b0), (.bool b1)].toArray w fun e w' => ∃ v, e = .returned v ∧ VRep RBool w' M r v ∧ BX No w w' := by
 have hC : Cx No w M w M := Cx.start hO (fun _ e => e.elim)
 clear _hG
 refine walk (N := 10) Tryd.func79 Z Tryd.ntmps79 Z (cw_seq (Zr (Zo Z Z Z (Za Z Z (Zn (Ze (cw_seq (Zr (Zo Z Z Z (Zm Z Z (Zo Z Z Z (Zm Z Z ?_))))))))))))
 replace h := Zc h
 rcases h with ⟨hc1, h⟩ | ⟨hc1, h⟩
 ·
  obtain rfl := h0.trans hc1
  refine lw_on Z Z Z Z Z Z (Zm Z Z (lw_on Z Z Z Z Z Z (ow_not Z Z (Zo Z Z Z (ow_pickT Z Z Z (Zo Z Z Z (Za Z Z (Zn (Ze (Zy ?_))))))))))
  obtain rfl := sj h
  exact ew_ret (res1 Z (.tmp Z)) ⟨_, Z, ((vbool_of (congrArg (! ·) h1))), hC.bx⟩
 ·
  obtain rfl := h0.trans hc1
  refine lw_off Z Z Z Z Z Z (lw_off Z Z Z Z Z Z (Zo Z Z Z (ow_pickF Z Z Z (Zo Z Z Z (Za Z Z (Zn (Ze (Zy ?_))))))))
  obtain rfl := sj h
  exact ew_ret (res1 Z (.tmp Z)) ⟨_, Z, ((vbool _)), hC.bx⟩

theorem w_impl_sweepSpans__impl_inFirstOnly {w : World} {M : Nat → Prop} (hG : ARep (RArr 4 RShape) w M shapes ⟨0, 0, none⟩) (hO : ∀ b, M b → b < w.heap.size) {v0p : Value} {a_a : List Span} (h0 : VRep (RSlice RSpan) w M a_a v0p) {v1p : Value} {a_b : List Span} (h1 : VRep (RSlice RSpan) w M a_b v1p) {a_top : Int} {r : (List Span)} (h : F.impl_sweepSpans__impl_inFirstOnly a_a a_b a_top = some r) :
  Calls Tryd.prog 78 [v0p, v1p, (.int .i64 a_top), (.func (.func 79) #[] #[])].toArray w fun e w' => ∃ v, e = .returned v ∧ VRep (RSlice RSpan) w' M r v ∧ BX No w w' := by
 obtain ⟨i69, hi69, hz69, hs69, hy69⟩ := info69
 have hC : Cx No w M w M := Cx.start hO (fun _ e => e.elim)
 refine walk (N := 107) Tryd.func78 Z Tryd.ntmps78 Z (cw_seq (Zr (Zo Z Z Z (Za Z Z (Zn (Ze (cw_seq (Zr (Zo Z Z Z (Za Z Z (Zn (Ze (cw_seq (Zr (Zo Z Z Z (Za Z Z (Zo Z Z Z (Za Z Z (Zn (Ze (cw_seq (cw_seq (Zr (Zo Z Z Z (Za Z Z (Zn (Ze ?_)))))))))))))))))))))))))))
 have hr1 : OwnRow RSpan w.heap.size 69 w M ([] : List Span) (.slice none 0 0) := ownrow_nil
 replace h := bind_some h
 obtain ⟨lr1, hlr1, h⟩ := h
 refine cw_for hlr1 (fun s a w' => ∃ (M' : Nat → Prop) (v0c : Value), Fits 107 [(0, v0p), (1, v1p), (2, (Zv a_top)), (3, (.func (.func 79) #[] #[])), (9, v0c), (10, (Zv s.2.1)), (11, (Zv s.2.2.1)), (12, (Zv s.2.2.2))] a ∧ Le w M w' M' ∧ Cx No w M w' M' ∧ OwnRow RSpan w.heap.size 69 w' M' s.1 v0c) ?_ ?_ ?_
 · exact fun a ha => ⟨M, (.slice none 0 0), ha.sub ⟨Z, Z, Z, Z, Z, Z, Z, Z, Zt⟩, Le.refl _ _, hC, hr1⟩
 ·
  rintro ⟨y1, k1, k2, k3⟩ a w1 sr1 ⟨M1, v1, hF1, hl1, hC1, hw1⟩ hb1 hR1
  refine cw_at (E := [(0, v0p), (1, v1p), (2, (Zv a_top)), (3, (.func (.func 79) #[] #[])), (9, v1), (10, (Zv k1)), (11, (Zv k2)), (12, (Zv k3))]) hF1 (cw_seq (cw_seq (Zr (Zo Z Z Z (Zm Z Z (Zo Z Z Z (Zm Z Z (Zo Z Z Z (ow_leq Z Z Z fun bb1 hbb1 => Zn (Ze ?_))))))))))
  replace hb1 := Zc hb1
  rcases hb1 with ⟨hc1, hb1⟩ | ⟨hc1, hb1⟩
  ·
   obtain rfl := hbb1.trans hc1
   refine cw_true Z (cw_skip (Ze (cw_block (cw_seq ?_))))
   replace hb1 := bind_some hb1
   obtain ⟨lr2, hlr2, hb1⟩ := hb1
   refine cw_for hlr2 (fun s a w' => ∃ (M' : Nat → Prop), Fits 107 [(0, v0p), (1, v1p), (2, (Zv a_top)), (3, (.func (.func 79) #[] #[])), (9, v1), (10, (Zv s.1)), (11, (Zv k2)), (12, (Zv k3))] a ∧ Le w1 M1 w' M' ∧ Cx No w M w' M' ∧ OwnRow RSpan w.heap.size 69 w' M' s.2 v1) ?_ ?_ ?_
   · exact fun a ha => ⟨M1, ha.sub ⟨Z, Z, Z, Z, Z, Z, Z, Z, Zt⟩, Le.refl _ _, hC1, hw1⟩
   ·
    rintro ⟨k4, y2⟩ a w2 sr2 ⟨M2, hF2, hl2, hC2, hw2⟩ hb2 hR2
    refine cw_at (E := [(0, v0p), (1, v1p), (2, (Zv a_top)), (3, (.func (.func 79) #[] #[])), (9, v1), (10, (Zv k4)), (11, (Zv k2)), (12, (Zv k3))]) hF2 (cw_seq (cw_seq (Zr (Zo Z Z Z (Zm Z Z (Zo Z Z Z (Zm Z Z (Zo Z Z Z (ow_len Z Z (VRep.mono (hl1.trans hl2) h0) Tryd.underlying59 Z (Zo Z Z Z (ow_lss Z Z Z fun bb2 hbb2 => Zo Z Z Z (Zm Z Z ?_))))))))))))
    replace hb2 := Zc hb2
    rcases hb2 with ⟨hc2, hb2⟩ | ⟨hc2, hb2⟩
    ·
     obtain rfl := hbb2.trans hc2
     refine lw_on Z Z Z Z Z Z (Zm Z Z (lw_on Z Z Z Z Z Z (Zm Z Z ?_)))
     replace hb2 := bind_some hb2
     obtain ⟨x1, hx1, hb2⟩ := hb2
     refine lw_on Z Z Z Z Z Z (Zx (R := RSpan) Z Z Z (VRep.mono (hl1.trans hl2) h0) Tryd.underlying59 (Tryd.sizeOf69 _) hx1 fun p1 hp1 => lw_on Z Z Z Z Z Z (Zf Z Z Tryd.underlying69 Z (Tryd.sizeOf3 _) (lw_on Z Z Z Z Z Z (Zl (R := RInt) Z Z (hp1.fld fld_Span_Hi) (Tryd.sizeOf3 _) (Tryd.isAgg3 _) fun v7 hv7 => ?_))))
     obtain rfl := Zi hv7
     refine lw_on Z Z Z Z Z Z (Zm Z Z (lw_on Z Z Z Z Z Z (ow_lss Z Z Z fun bb3 hbb3 => Zo Z Z Z (ow_pickT Z Z Z (Zn (Ze ?_))))))
     replace hb2 := Zc hb2
     rcases hb2 with ⟨hc3, hb2⟩ | ⟨hc3, hb2⟩
     ·
      obtain rfl := hbb3.trans hc3
      exact cw_true Z (cw_skip (Ze (cw_block (Zr (Zo Z Z Z (Zm Z Z (Zo Z Z Z (ow_add Z Z Z (Zo Z Z Z (Za Z Z (Zn (ew_blockN (ew_nxt ((W (k4 + 1)), y2) hb2 fun a ha => ⟨M2, (ha.sub ⟨Z, Z, Z, Z, Z, Z, Z, Z, Zt⟩), hl2, hC2, hw2⟩)))))))))))))
     ·
      obtain rfl := hbb3.trans hc3
      exact Zu Z (cw_exit (ew_thenX (ew_thenX (ew_blockX (ew_brk (k4, y2) hb2 fun a ha => ⟨M2, (ha.sub ⟨Z, Z, Z, Z, Z, Z, Z, Z, Zt⟩), hl2, hC2, hw2⟩)))))
    ·
     obtain rfl := hbb2.trans hc2
     exact lw_off Z Z Z Z Z Z (lw_off Z Z Z Z Z Z (lw_off Z Z Z Z Z Z (lw_off Z Z Z Z Z Z (lw_off Z Z Z Z Z Z (lw_off Z Z Z Z Z Z (lw_off Z Z Z Z Z Z (Zo Z Z Z (ow_pickF Z Z Z (Zn (Ze (Zu Z (cw_exit (ew_thenX (ew_thenX (ew_blockX (ew_brk (k4, y2) hb2 fun a ha => ⟨M2, (ha.sub ⟨Z, Z, Z, Z, Z, Z, Z, Z, Zt⟩), hl2, hC2, hw2⟩))))))))))))))))
   ·
    rintro ⟨k5, y3⟩ a w3 hlr3 ⟨M3, hF3, hl3, hC3, hw3⟩
    subst hlr3
    refine ew_at (E := [(0, v0p), (1, v1p), (2, (Zv a_top)), (3, (.func (.func 79) #[] #[])), (9, v1), (10, (Zv k5)), (11, (Zv k2)), (12, (Zv k3))]) hF3 (Ze (cw_seq ?_))
    replace hb1 := bind_some hb1
    obtain ⟨lr3, hlr4, hb1⟩ := hb1
    refine cw_for hlr4 (fun s a w' => ∃ (M' : Nat → Prop), Fits 107 [(0, v0p), (1, v1p), (2, (Zv a_top)), (3, (.func (.func 79) #[] #[])), (9, v1), (10, (Zv k5)), (11, (Zv s.1)), (12, (Zv k3))] a ∧ Le w3 M3 w' M' ∧ Cx No w M w' M' ∧ OwnRow RSpan w.heap.size 69 w' M' s.2 v1) ?_ ?_ ?_
    · exact fun a ha => ⟨M3, ha.sub ⟨Z, Z, Z, Z, Z, Z, Z, Z, Zt⟩, Le.refl _ _, hC3, hw3⟩
    ·
     rintro ⟨k6, y4⟩ a w4 sr3 ⟨M4, hF4, hl4, hC4, hw4⟩ hb3 hR3
     refine cw_at (E := [(0, v0p), (1, v1p), (2, (Zv a_top)), (3, (.func (.func 79) #[] #[])), (9, v1), (10, (Zv k5)), (11, (Zv k6)), (12, (Zv k3))]) hF4 (cw_seq (cw_seq (Zr (Zo Z Z Z (Zm Z Z (Zo Z Z Z (Zm Z Z ?_)))))))
     have lz1 := ((hl1.trans hl3).trans hl4)
     refine Zo Z Z Z (ow_len Z Z (VRep.mono lz1 h1) Tryd.underlying59 Z (Zo Z Z Z (ow_lss Z Z Z fun bb4 hbb4 => Zo Z Z Z (Zm Z Z ?_))))
     replace hb3 := Zc hb3
     rcases hb3 with ⟨hc4, hb3⟩ | ⟨hc4, hb3⟩
     ·
      obtain rfl := hbb4.trans hc4
      refine lw_on Z Z Z Z Z Z (Zm Z Z (lw_on Z Z Z Z Z Z (Zm Z Z ?_)))
      replace hb3 := bind_some hb3
      obtain ⟨x2, hx2, hb3⟩ := hb3
      refine lw_on Z Z Z Z Z Z (Zx (R := RSpan) Z Z Z (VRep.mono lz1 h1) Tryd.underlying59 (Tryd.sizeOf69 _) hx2 fun p2 hp2 => lw_on Z Z Z Z Z Z (Zf Z Z Tryd.underlying69 Z (Tryd.sizeOf3 _) (lw_on Z Z Z Z Z Z (Zl (R := RInt) Z Z (hp2.fld fld_Span_Hi) (Tryd.sizeOf3 _) (Tryd.isAgg3 _) fun v12 hv12 => ?_))))
      obtain rfl := Zi hv12
      refine lw_on Z Z Z Z Z Z (Zm Z Z (lw_on Z Z Z Z Z Z (ow_lss Z Z Z fun bb5 hbb5 => Zo Z Z Z (ow_pickT Z Z Z (Zn (Ze ?_))))))
      replace hb3 := Zc hb3
      rcases hb3 with ⟨hc5, hb3⟩ | ⟨hc5, hb3⟩
      ·
       obtain rfl := hbb5.trans hc5
       exact cw_true Z (cw_skip (Ze (cw_block (Zr (Zo Z Z Z (Zm Z Z (Zo Z Z Z (ow_add Z Z Z (Zo Z Z Z (Za Z Z (Zn (ew_blockN (ew_nxt ((W (k6 + 1)), y4) hb3 fun a ha => ⟨M4, (ha.sub ⟨Z, Z, Z, Z, Z, Z, Z, Z, Zt⟩), hl4, hC4, hw4⟩)))))))))))))
      ·
       obtain rfl := hbb5.trans hc5
       exact Zu Z (cw_exit (ew_thenX (ew_thenX (ew_blockX (ew_brk (k6, y4) hb3 fun a ha => ⟨M4, (ha.sub ⟨Z, Z, Z, Z, Z, Z, Z, Z, Zt⟩), hl4, hC4, hw4⟩)))))
     ·
      obtain rfl := hbb4.trans hc4
      exact lw_off Z Z Z Z Z Z (lw_off Z Z Z Z Z Z (lw_off Z Z Z Z Z Z (lw_off Z Z Z Z Z Z (lw_off Z Z Z Z Z Z (lw_off Z Z Z Z Z Z (lw_off Z Z Z Z Z Z (Zo Z Z Z (ow_pickF Z Z Z (Zn (Ze (Zu Z (cw_exit (ew_thenX (ew_thenX (ew_blockX (ew_brk (k6, y4) hb3 fun a ha => ⟨M4, (ha.sub ⟨Z, Z, Z, Z, Z, Z, Z, Z, Zt⟩), hl4, hC4, hw4⟩))))))))))))))))
    ·
     rintro ⟨k7, y5⟩ a w5 hlr5 ⟨M5, hF5, hl5, hC5, hw5⟩
     subst hlr5
     refine ew_at (E := [(0, v0p), (1, v1p), (2, (Zv a_top)), (3, (.func (.func 79) #[] #[])), (9, v1), (10, (Zv k5)), (11, (Zv k7)), (12, (Zv k3))]) hF5 (Ze (cw_seq (Zr (Zo Z Z Z (Zm Z Z (Zo Z Z Z (Zm Z Z ?_)))))))
     replace hb1 := bind_some hb1
     obtain ⟨y6, hy6, hb1⟩ := hb1
     have lz2 := ((hl1.trans hl3).trans hl5)
     refine Zo Z Z Z (ow_sliceFrom (R := RSpan) Z Z Z (VRep.mono lz2 h0) Tryd.underlying59 (Tryd.sizeOf69 _) (dropF_some hy6).2 fun v15 hv15 => ?_)
     rw [← (dropF_some hy6).1] at hv15
     refine Zo Z Z Z (Zm Z Z (Zo Z Z Z (Zm Z Z ?_)))
     replace hb1 := bind_some hb1
     obtain ⟨x3, hx3, hb1⟩ := hb1
     refine Zo Z Z Z (Zk Z Z Tryd.call98 (w_impl_stretch (hG.mono lz2) hC5.old hv15 hx3) fun v16 w6 hv16 => ?_)
     obtain ⟨⟨v17, v18, rfl, hv17, hv18⟩, hb4⟩ := hv16
     have hl6 := Le.no M5 hb4
     have hC6 := hC5.no hb4
     have hr2 := hw5.no hb4
     obtain ⟨bb6, hbb6, rfl⟩ := vbool_ex hv17
     obtain rfl := Zi hv18
     refine Zo Z Z Z (Zm Z Z (Zo Z Z Z (ow_extract Z Z Z (Zo Z Z Z (ow_extract Z Z Z (Zo Z Z Z (Za Z Z (Zo Z Z Z (Za Z Z (Zn (Ze (cw_seq (Zr (Zo Z Z Z (Zm Z Z (Zo Z Z Z (Zm Z Z ?_)))))))))))))))))
     replace hb1 := bind_some hb1
     obtain ⟨y7, hy7, hb1⟩ := hb1
     refine Zo Z Z Z (ow_sliceFrom (R := RSpan) Z Z Z (VRep.mono (lz2.trans hl6) h1) Tryd.underlying59 (Tryd.sizeOf69 _) (dropF_some hy7).2 fun v19 hv19 => ?_)
     rw [← (dropF_some hy7).1] at hv19
     refine Zo Z Z Z (Zm Z Z (Zo Z Z Z (Zm Z Z ?_)))
     replace hb1 := bind_some hb1
     obtain ⟨x4, hx4, hb1⟩ := hb1
     refine Zo Z Z Z (Zk Z Z Tryd.call98 (w_impl_stretch (hG.mono (lz2.trans hl6)) hC6.old hv19 hx4) fun v20 w7 hv20 => ?_)
     obtain ⟨⟨v21, v22, rfl, hv21, hv22⟩, hb5⟩ := hv20
     have hl7 := Le.no M5 hb5
     have hC7 := hC6.no hb5
     have hr3 := hr2.no hb5
     obtain ⟨bb7, hbb7, rfl⟩ := vbool_ex hv21
     obtain rfl := Zi hv22
     refine Zo Z Z Z (Zm Z Z (Zo Z Z Z (ow_extract Z Z Z (Zo Z Z Z (ow_extract Z Z Z (Zo Z Z Z (Za Z Z (Zo Z Z Z (Za Z Z (Zn (Ze (cw_seq (Zr (Zo Z Z Z (Zm Z Z (Zo Z Z Z (Zm Z Z (Zo Z Z Z (ow_min Z Z Z (Zo Z Z Z (Za Z Z (Zn (Ze (cw_seq (cw_seq (Zr (Zo Z Z Z (Zm Z Z (Zo Z Z Z (Zm Z Z (Zo Z Z Z (Zm Z Z ?_))))))))))))))))))))))))))))))))
     replace hb1 := bind_some hb1
     obtain ⟨x5, hx5, hb1⟩ := hb1
     have lz3 := ((lz2.trans hl6).trans hl7)
     refine Zo Z Z Z (ow_callv Z Z Z Tryd.call79 (w_impl_inFirstOnly (hG.mono lz3) hC7.old hbb6 hbb7 hx5) fun v23 w8 hv23 => ?_)
     obtain ⟨hv23, hb6⟩ := hv23
     have hl8 := Le.no M5 hb6
     have hC8 := hC7.no hb6
     have hr4 := hr3.no hb6
     obtain rfl := vbool_eq hv23
     refine Zn (Ze ?_)
     replace hb1 := Zc hb1
     rcases hb1 with ⟨hc6, hb1⟩ | ⟨hc6, hb1⟩
     ·
      subst hc6
      refine cw_true Z (cw_seq (Zr (Zo Z Z Z (Zm Z Z (Zo Z Z Z (ow_lenOwn Z Z hr4 Tryd.underlying59 (Zo Z Z Z (Za Z Z (Zn (Ze (cw_seq (Zr (Zo Z Z Z (Zm Z Z (Zo Z Z Z (ow_gtr Z Z Z fun bb8 hbb8 => Zo Z Z Z (Zm Z Z ?_)))))))))))))))))
      replace hb1 := Zc hb1
      rcases hb1 with ⟨hc7, hb1⟩ | ⟨hc7, hb1⟩
      ·
       obtain rfl := hbb8.trans hc7
       refine lw_on Z Z Z Z Z Z (Zm Z Z (lw_on Z Z Z Z Z Z (Zm Z Z (lw_on Z Z Z Z Z Z (ow_sub Z Z Z ?_)))))
       replace hb1 := bind_some hb1
       obtain ⟨x6, hx6, hb1⟩ := hb1
       refine lw_on Z Z Z Z Z Z (ow_indexRow (R := RSpan) Z Z Z hr4 Tryd.underlying59 (Tryd.sizeOf69 _) hx6 (lw_on Z Z Z Z Z Z (Zf Z Z Tryd.underlying69 Z (Tryd.sizeOf3 _) (lw_on Z Z Z Z Z Z (ow_loadElRow (R := RSpan) (S := RInt) Z Z Z hr4 (orow_blk hr4 hx6) hx6 fld_Span_Hi (Tryd.sizeOf3 _) (Tryd.isAgg3 _) fun v24 hv24 => ?_)))))
       obtain rfl := Zi hv24
       refine lw_on Z Z Z Z Z Z (ow_add Z Z Z (lw_on Z Z Z Z Z Z (Zm Z Z (lw_on Z Z Z Z Z Z (ow_eqlI Z Z Z fun bb9 hbb9 => Zo Z Z Z (ow_pickT Z Z Z (Zn (Ze ?_))))))))
       replace hb1 := Zc hb1
       rcases hb1 with ⟨hc8, hb1⟩ | ⟨hc8, hb1⟩
       ·
        obtain rfl := hbb9.trans hc8
        refine cw_true Z (Zr (Zo Z Z Z (Zm Z Z (Zo Z Z Z (Zm Z Z (Zo Z Z Z (ow_sub Z Z Z (Zo Z Z Z (Zm Z Z (Zo Z Z Z (ow_indexRow (R := RSpan) Z Z Z hr4 Tryd.underlying59 (Tryd.sizeOf69 _) hx6 (Zo Z Z Z (Zf Z Z Tryd.underlying69 Z (Tryd.sizeOf3 _) (lw_op0 Z Z (ow_storeElRow (X := No) (R := RSpan) (S := RInt) Z Z Z Z hr4 (orow_blk hr4 hx6) hx6 set_Span_Hi (Tryd.sizeOf3 _) (vint _) (Nat.le_refl _) hC8 fun w9 ho1 hb7 hl9 hC9 => Zn (Ze (Zr (Zo Z Z Z (Zm Z Z (Zo Z Z Z (ow_add Z Z Z (Zo Z Z Z (Za Z Z (Zn (ew_blockN ?_)))))))))))))))))))))))))
        have lz4 := ((lz3.trans hl8).trans hl9)
        exact ew_nxt ((List.set y5 ((W ((y5.length : Int) - 1)) : Int).toNat { x6 with Hi := (imin x3.2 x4.2) }), k5, k7, (W ((imin x3.2 x4.2) + 1))) hb1 fun a ha => ⟨M5, v1, (ha.sub ⟨Z, Z, Z, Z, Z, Z, Z, Z, Zt⟩), lz4, hC9, ho1⟩
       ·
        obtain rfl := hbb9.trans hc8
        refine Zu Z (Zr (Zo Z Z Z (Zm Z Z (Zo Z Z Z (Zm Z Z (Zo Z Z Z (Zm Z Z (Zo Z Z Z (ow_build (v := .agg #[(Zv k3), (Zv (imin x3.2 x4.2))]) Z Z (by kernel_rfl) ?_)))))))))
        have hw6 : VRep RSpan w8 M5 ({ Lo := k3, Hi := (imin x3.2 x4.2) } : Span) (.agg #[(Zv k3), (Zv (imin x3.2 x4.2))]) := shut_Span
        refine Zo Z Z Z (ow_buildSlice (R := RSpan) (xs := [({ Lo := k3, Hi := (imin x3.2 x4.2) } : Span)]) (cs := #[(Zv k3), (Zv (imin x3.2 x4.2))]) (e := 69) Z Z (by kernel_rfl) Z Z ⟨_, _, Z, hw6.cells, Z⟩ hC8 fun p3 w10 hw7 hb8 hl10 hC10 => ?_)
        have hr5 := hr4.no hb8
        replace hb1 := bind_some hb1
        obtain ⟨z1, hz1, hb1⟩ := hb1
        refine Zo Z Z Z (ow_append (R := RSpan) Z Z Z Z Tryd.underlying59 hi69 hz69 hs69 hy69 Z Z Z Z hr5 hw7 hz1 hC10 fun v25 w11 M6 hr6 hb9 hl11 hC11 hM1 hat1 => Zo Z Z Z (Za Z Z (Zn (Ze (Zr (Zo Z Z Z (Zm Z Z (Zo Z Z Z (ow_add Z Z Z (Zo Z Z Z (Za Z Z (Zn (ew_blockN ?_)))))))))))))
        have lz5 := (((lz3.trans hl8).trans hl10).trans hl11)
        exact ew_nxt (z1, k5, k7, (W ((imin x3.2 x4.2) + 1))) hb1 fun a ha => ⟨M6, v25, (ha.sub ⟨Z, Z, Z, Z, Z, Z, Z, Z, Zt⟩), lz5, hC11, hr6⟩
      ·
       obtain rfl := hbb8.trans hc7
       refine lw_off Z Z Z Z Z Z (lw_off Z Z Z Z Z Z (lw_off Z Z Z Z Z Z (lw_off Z Z Z Z Z Z (lw_off Z Z Z Z Z Z (lw_off Z Z Z Z Z Z (lw_off Z Z Z Z Z Z (lw_off Z Z Z Z Z Z (lw_off Z Z Z Z Z Z (Zo Z Z Z (ow_pickF Z Z Z (Zn (Ze (Zu Z (Zr (Zo Z Z Z (Zm Z Z (Zo Z Z Z (Zm Z Z (Zo Z Z Z (Zm Z Z (Zo Z Z Z (ow_build (v := .agg #[(Zv k3), (Zv (imin x3.2 x4.2))]) Z Z (by kernel_rfl) ?_))))))))))))))))))))))
       have hw8 : VRep RSpan w8 M5 ({ Lo := k3, Hi := (imin x3.2 x4.2) } : Span) (.agg #[(Zv k3), (Zv (imin x3.2 x4.2))]) := shut_Span
       refine Zo Z Z Z (ow_buildSlice (R := RSpan) (xs := [({ Lo := k3, Hi := (imin x3.2 x4.2) } : Span)]) (cs := #[(Zv k3), (Zv (imin x3.2 x4.2))]) (e := 69) Z Z (by kernel_rfl) Z Z ⟨_, _, Z, hw8.cells, Z⟩ hC8 fun p4 w12 hw9 hb10 hl12 hC12 => ?_)
       have hr7 := hr4.no hb10
       replace hb1 := bind_some hb1
       obtain ⟨z2, hz2, hb1⟩ := hb1
       refine Zo Z Z Z (ow_append (R := RSpan) Z Z Z Z Tryd.underlying59 hi69 hz69 hs69 hy69 Z Z Z Z hr7 hw9 hz2 hC12 fun v26 w13 M7 hr8 hb11 hl13 hC13 hM2 hat2 => Zo Z Z Z (Za Z Z (Zn (Ze (Zr (Zo Z Z Z (Zm Z Z (Zo Z Z Z (ow_add Z Z Z (Zo Z Z Z (Za Z Z (Zn (ew_blockN ?_)))))))))))))
       have lz6 := (((lz3.trans hl8).trans hl12).trans hl13)
       exact ew_nxt (z2, k5, k7, (W ((imin x3.2 x4.2) + 1))) hb1 fun a ha => ⟨M7, v26, (ha.sub ⟨Z, Z, Z, Z, Z, Z, Z, Z, Zt⟩), lz6, hC13, hr8⟩
     ·
      subst hc6
      exact Zu Z (cw_skip (Ze (Zr (Zo Z Z Z (Zm Z Z (Zo Z Z Z (ow_add Z Z Z (Zo Z Z Z (Za Z Z (Zn (ew_blockN (ew_nxt (y5, k5, k7, (W ((imin x3.2 x4.2) + 1))) hb1 fun a ha => ⟨M5, v1, (ha.sub ⟨Z, Z, Z, Z, Z, Z, Z, Z, Zt⟩), (lz3.trans hl8), hC8, hr4⟩))))))))))))
  ·
   obtain rfl := hbb1.trans hc1
   exact Zu Z (cw_exit (ew_thenX (ew_thenX (ew_blockX (ew_brk (y1, k1, k2, k3) hb1 fun a ha => ⟨M1, v1, (ha.sub ⟨Z, Z, Z, Z, Z, Z, Z, Z, Zt⟩), hl1, hC1, hw1⟩)))))
 ·
  rintro ⟨y8, k8, k9, k10⟩ a w14 hlr6 ⟨M8, v27, hF6, hl14, hC14, hw10⟩
  subst hlr6
  refine ew_at (E := [(0, v0p), (1, v1p), (2, (Zv a_top)), (3, (.func (.func 79) #[] #[])), (9, v27), (10, (Zv k8)), (11, (Zv k9)), (12, (Zv k10))]) hF6 (Ze (cw_seq (Zr (Zo Z Z Z (Zm Z Z (Zo Z Z Z (Za Z Z (Zn (Ze (Zy ?_))))))))))
  obtain rfl := sj h
  exact ew_ret (res1 Z (.tmp Z)) ⟨_, Z, (hw10.freezeBack hC14 hO), hC14.bx⟩

theorem w_impl_sides_within {w : World} {M : Nat → Prop} (hG : ARep (RArr 4 RShape) w M shapes ⟨0, 0, none⟩) (hO : ∀ b, M b → b < w.heap.size) {v0p : Value} {a_s : List (List Span)} (h0 : VRep (RArr 4 (RSlice RSpan)) w M a_s v0p) {v1p : Value} {a_other : List (List Span)} (h1 : VRep (RArr 4 (RSlice RSpan)) w M a_other v1p) {r : Bool} (h : F.impl_sides_within a_s a_other = some r) :
  Calls Tryd.prog 44 [v0p, v1p].toArray w fun e w' => ∃ v, e = .returned v ∧ VRep RBool w' M r v ∧ BX No w w' := by
 have hC : Cx No w M w M := Cx.start hO (fun _ e => e.elim)
 refine walk (N := 23) Tryd.func44 Z Tryd.ntmps44 Z (cw_seq (Zr (Zo Z Z Z (ow_box (R := (RArr 4 (RSlice RSpan))) Z Z h0 hC fun p1 w1 hp1 hb1 hl1 hC1 => Zo Z Z Z (ow_box (R := (RArr 4 (RSlice RSpan))) Z Z (VRep.mono hl1 h1) hC1 fun p2 w2 hp2 hb2 hl2 hC2 => Zo Z Z Z (Za Z Z (Zn (Ze (cw_seq (cw_seq (Zr (Zo Z Z Z (Zl (R := (RArr 4 (RSlice RSpan))) Z Z (ARep.mono hl2 hp1) (Tryd.sizeOf61 _) (Tryd.isAgg61 _) fun v1 hv1 => ?_)))))))))))))
 replace h := bind_some h
 obtain ⟨x1, hx1, h⟩ := h
 refine Zo Z Z Z (Zk Z Z Tryd.call43 (w_impl_sides_empty (hG.mono (hl1.trans hl2)) hC2.old hv1 hx1) fun v2 w3 hv2 => ?_)
 obtain ⟨hv2, hb3⟩ := hv2
 have hl3 := Le.no M hb3
 have hC3 := hC2.no hb3
 obtain rfl := vbool_eq hv2
 refine Zn (Ze ?_)
 replace h := Zc h
 rcases h with ⟨hc1, h⟩ | ⟨hc1, h⟩
 ·
  subst hc1
  refine cw_true Z (cw_seq (Zr (Zo Z Z Z (Za Z Z (Zn (Ze (Zy (Zh ?_))))))))
  obtain rfl := sj h
  exact ew_ret (res1 Z (.tmp Z)) ⟨_, Z, ((vbool _)), hC3.bx⟩
 ·
  subst hc1
  refine Zu Z (cw_skip (Ze (cw_seq (cw_seq (Zr (Zo Z Z Z (Zm Z Z (Zn (Ze ?_)))))))))
  replace h := bind_some h
  obtain ⟨lr1, hlr1, h⟩ := h
  refine cw_for hlr1 (fun s a w' => ∃ (M' : Nat → Prop), Fits 23 [(2, (.pointer (some p1))), (3, (.pointer (some p2))), (8, (Zv s))] a ∧ Le w3 M w' M' ∧ Cx No w M w' M') ?_ ?_ ?_
  · exact fun a ha => ⟨M, ha.sub ⟨Z, Z, Z, Zt⟩, Le.refl _ _, hC3⟩
  ·
   rintro k1 a w4 sr1 ⟨M1, hF1, hl4, hC4⟩ hb4 hR1
   refine cw_at (E := [(2, (.pointer (some p1))), (3, (.pointer (some p2))), (8, (Zv k1))]) hF1 (cw_seq (Zr (Zo Z Z Z (ow_lss Z Z Z fun bb1 hbb1 => Zn (Ze (cw_seq ?_))))))
   replace hb4 := Zc hb4
   rcases hb4 with ⟨hc2, hb4⟩ | ⟨hc2, hb4⟩
   ·
    obtain rfl := hbb1.trans hc2
    refine cw_true Z (cw_skip (Ze (cw_seq (cw_block (cw_seq (Zr (Zo Z Z Z (Zm Z Z (Zo Z Z Z (Za Z Z (Zn (Ze (cw_seq ?_)))))))))))))
    replace hb4 := bind_some hb4
    obtain ⟨x2, hx2, hb4⟩ := hb4
    replace hb4 := bind_some hb4
    obtain ⟨x3, hx3, hb4⟩ := hb4
    replace hb4 := bind_some hb4
    obtain ⟨x4, hx4, hb4⟩ := hb4
    have lz1 := (((hl1.trans hl2).trans hl3).trans hl4)
    have lz2 := ((hl2.trans hl3).trans hl4)
    have lz3 := (hl3.trans hl4)
    refine cw_sub (E' := [(2, (.pointer (some p1))), (3, (.pointer (some p2))), (5, (Zv k1)), (8, (Zv k1))]) ⟨Z, Z, Z, Z, Zt⟩ (cw_drawQ 8 [PEq (Zv k1), PA (RSlice RSpan) M1 x2, PV (RSlice RSpan) M1 x2, PEq (Zv k1), PA (RSlice RSpan) M1 x3, PV (RSlice RSpan) M1 x3, PEq (Zv k1), PEq (Zv x4)] (by kernel_rfl) Z (by kernel_rfl) ⟨Zq, PA.mono _ _ _, PV.mono _ _ _, Zq, PA.mono _ _ _, PV.mono _ _ _, Zq, Zq, Zt⟩ ⟨?_, ?_, ?_, ?_, ?_, ?_, ?_, ?_, Zt⟩ ?_)
    · exact fun w6 D hS1 hd1 => Zs (E' := [(5, (Zv k1))]) ⟨Z, Zt⟩ (Zp Z (Zm Z Z Zb))
    ·
     intro w7 D hS2 hd2
     have hl7 := Le.no M1 hS2
     exact Zs (E' := [(11, (Zv k1)), (2, (.pointer (some p1)))]) ⟨dpE hd2 0 Z Z, Z, Zt⟩ (Zp Z (ow_indexArr (R := (RSlice RSpan)) Z Z Z (ARep.mono (lz2.trans hl7) hp1) Tryd.underlying61 (Tryd.sizeOf59 _) hx2 fun p5 hp5 => ⟨BX.refl _ _, ⟨_, Z, hp5⟩⟩))
    ·
     intro w8 D hS3 hd3
     have d2 : PA (RSlice RSpan) M1 x2 (D 1) w8 := dpA hd3 1 Z
     obtain ⟨p6, e1, ha1⟩ := d2
     exact Zs (E' := [(12, (.pointer (some p6)))]) ⟨congrArg some e1, Zt⟩ (Zp Z (Zl (R := (RSlice RSpan)) Z Z ha1 (Tryd.sizeOf59 _) (Tryd.isAgg59 _) fun v7 hv7 => ⟨BX.refl _ _, hv7⟩))
    · exact fun w9 D hS4 hd4 => Zs (E' := [(5, (Zv k1))]) ⟨Z, Zt⟩ (Zp Z (Zm Z Z Zb))
    ·
     intro w10 D hS5 hd5
     have hl10 := Le.no M1 hS5
     exact Zs (E' := [(14, (Zv k1)), (3, (.pointer (some p2)))]) ⟨dpE hd5 3 Z Z, Z, Zt⟩ (Zp Z (ow_indexArr (R := (RSlice RSpan)) Z Z Z (ARep.mono (lz3.trans hl10) hp2) Tryd.underlying61 (Tryd.sizeOf59 _) hx3 fun p7 hp7 => ⟨BX.refl _ _, ⟨_, Z, hp7⟩⟩))
    ·
     intro w11 D hS6 hd6
     have d4 : PA (RSlice RSpan) M1 x3 (D 4) w11 := dpA hd6 4 Z
     obtain ⟨p8, e2, ha2⟩ := d4
     exact Zs (E' := [(15, (.pointer (some p8)))]) ⟨congrArg some e2, Zt⟩ (Zp Z (Zl (R := (RSlice RSpan)) Z Z ha2 (Tryd.sizeOf59 _) (Tryd.isAgg59 _) fun v8 hv8 => ⟨BX.refl _ _, hv8⟩))
    · exact fun w12 D hS7 hd7 => Zs (E' := [(5, (Zv k1))]) ⟨Z, Zt⟩ (Zp Z (Zm Z Z Zb))
    ·
     intro w13 D hS8 hd8
     have hl13 := Le.no M1 hS8
     have hC13 := hC4.no hS8
     refine Zs (E' := [(17, (Zv k1))]) ⟨dpE hd8 6 Z Z, Zt⟩ (Zp Z (Zk Z Z Tryd.call68 (w_impl_FieldTop (hG.mono (lz1.trans hl13)) hC13.old hx4) fun v9 w14 hv9 => ?_))
     obtain ⟨hv9, hb6⟩ := hv9
     obtain rfl := Zi hv9
     exact ⟨hb6, Z⟩
    ·
     intro w15 D hS9 hd9
     have d8 : PV (RSlice RSpan) M1 x2 (D 2) w15 := dpA hd9 2 Z
     have d11 : PV (RSlice RSpan) M1 x3 (D 5) w15 := dpA hd9 5 Z
     have hl15 := Le.no M1 hS9
     have hC15 := hC4.no hS9
     generalize hq1 : (D 2) = v10 at d8
     generalize hq2 : (D 5) = v11 at d11
     refine lw_sub (E' := [(13, v10), (16, v11), (18, (Zv x4)), (2, (.pointer (some p1))), (3, (.pointer (some p2))), (5, (Zv k1)), (8, (Zv k1))]) ⟨congrArg some hq1, congrArg some hq2, dpE hd9 7 Z Z, Z, Z, Z, Z, Zt⟩ ?_
     replace hb4 := bind_some hb4
     obtain ⟨x5, hx5, hb4⟩ := hb4
     refine Zo Z Z Z (Zk Z Z Tryd.call78 (w_impl_sweepSpans__impl_inFirstOnly (hG.mono (lz1.trans hl15)) hC15.old d8 d11 hx5) fun v12 w16 hv12 => ?_)
     obtain ⟨hv12, hb7⟩ := hv12
     have hl16 := Le.no M1 hb7
     have hC16 := hC15.no hb7
     refine Zo Z Z Z (ow_len Z Z hv12 Tryd.underlying59 Z (Zo Z Z Z (ow_gtr Z Z Z fun bb2 hbb2 => Zn (Ze ?_))))
     replace hb4 := Zc hb4
     rcases hb4 with ⟨hc3, hb4⟩ | ⟨hc3, hb4⟩
     ·
      obtain rfl := hbb2.trans hc3
      refine cw_true Z (cw_seq (Zr (Zo Z Z Z (Za Z Z (Zn (Ze (Zy (ew_blockR (Zh (Zh (ew_blockR (ew_brkR (Zh ?_)))))))))))))
      have e3 := hR1 _ (sj hb4).symm
      subst e3
      obtain rfl := sj h
      exact ew_ret (res1 Z (.tmp Z)) ⟨_, Z, ((vbool _)), hC16.bx⟩
     ·
      obtain rfl := hbb2.trans hc3
      refine Zu Z (cw_skip (ew_blockN (Ze (Zr (Zo Z Z Z (ow_add Z Z Z (Zo Z Z Z (Zm Z Z (Zn ?_)))))))))
      have lz4 := ((hl4.trans hl15).trans hl16)
      exact ew_nxt (W (k1 + 1)) hb4 fun a ha => ⟨M1, (ha.sub ⟨Z, Z, Z, Zt⟩), lz4, hC16⟩
   ·
    obtain rfl := hbb1.trans hc2
    exact Zu Z (cw_exit (ew_thenX (ew_thenX (ew_blockX (ew_brk k1 hb4 fun a ha => ⟨M1, (ha.sub ⟨Z, Z, Z, Zt⟩), hl4, hC4⟩)))))
  ·
   rintro k2 a w17 hlr2 ⟨M2, hF2, hl17, hC17⟩
   subst hlr2
   refine ew_at (E := [(2, (.pointer (some p1))), (3, (.pointer (some p2))), (8, (Zv k2))]) hF2 (Ze (cw_seq (Zr (Zo Z Z Z (Za Z Z (Zn (Ze (Zy ?_))))))))
   obtain rfl := sj h
   exact ew_ret (res1 Z (.tmp Z)) ⟨_, Z, ((vbool _)), hC17.bx⟩

theorem w_impl_BoxWithin {w : World} {M : Nat → Prop} (hG : ARep (RArr 4 RShape) w M shapes ⟨0, 0, none⟩) (hO : ∀ b, M b → b < w.heap.size) {v0p : Value} {a_a : Box} (h0 : VRep RBox w M a_a v0p) {v1p : Value} {a_b : Box} (h1 : VRep RBox w M a_b v1p) {r : Bool} (h : F.impl_BoxWithin a_a a_b = some r) :
  Calls Tryd.prog 17 [v0p, v1p].toArray w fun e w' => ∃ v, e = .returned v ∧ VRep RBool w' M r v ∧ BX No w w' := by
 have hC : Cx No w M w M := Cx.start hO (fun _ e => e.elim)
 refine walk (N := 18) Tryd.func17 Z Tryd.ntmps17 Z (cw_seq (Zr (Zo Z Z Z (ow_box (R := RBox) Z Z h0 hC fun p1 w1 hp1 hb1 hl1 hC1 => Zo Z Z Z (ow_box (R := RBox) Z Z (VRep.mono hl1 h1) hC1 fun p2 w2 hp2 hb2 hl2 hC2 => Zo Z Z Z (Za Z Z (Zn (Ze (cw_seq ?_)))))))))
 replace h := bind_some h
 obtain ⟨x1, hx1, h⟩ := h
 replace h := Zc h
 rcases h with ⟨hc1, h⟩ | ⟨hc1, h⟩
 ·
  subst hc1
  replace h := bind_some h
  obtain ⟨x2, hx2, h⟩ := h
  replace h := Zc h
  rcases h with ⟨hc2, h⟩ | ⟨hc2, h⟩
  ·
   subst hc2
   replace h := bind_some h
   obtain ⟨x3, hx3, h⟩ := h
   have lz1 := (hl1.trans hl2)
   refine cw_sub (E' := [(2, (.pointer (some p1))), (3, (.pointer (some p2))), (4, (.bool false))]) ⟨Z, Z, Z, Zt⟩ (cw_drawQ 10 [PV RBox M a_a, PEq (.bool true), PEq (.bool true), PV RBox M a_b, PEq (.bool true), PEq (.bool true), PEq (.bool true), PV RBox M a_a, PV (RArr 4 (RSlice RSpan)) M x3, PV RBox M a_b] (by kernel_rfl) Z (by kernel_rfl) ⟨PV.mono _ _ _, Zq, Zq, PV.mono _ _ _, Zq, Zq, Zq, PV.mono _ _ _, PV.mono _ _ _, PV.mono _ _ _, Zt⟩ ⟨?_, ?_, ?_, ?_, ?_, ?_, ?_, ?_, ?_, ?_, Zt⟩ ?_)
   ·
    intro w6 D hS1 hd1
    have hl6 := Le.no M hS1
    exact Zs (E' := [(2, (.pointer (some p1)))]) ⟨Z, Zt⟩ (Zp Z (Zl (R := RBox) Z Z (ARep.mono (hl2.trans hl6) hp1) (Tryd.sizeOf25 _) (Tryd.isAgg25 _) fun v8 hv8 => ⟨BX.refl _ _, hv8⟩))
   ·
    intro w7 D hS2 hd2
    have hl7 := Le.no M hS2
    have hC7 := hC2.no hS2
    have d1 : PV RBox M a_a (D 0) w7 := dpA hd2 0 Z
    generalize hq1 : (D 0) = v9 at d1
    refine Zs (E' := [(5, v9)]) ⟨congrArg some hq1, Zt⟩ (Zp Z (Zk Z Z Tryd.call31 (w_impl_BoxValid (hG.mono (lz1.trans hl7)) hC7.old d1 hx1) fun v10 w8 hv10 => ?_))
    obtain ⟨hv10, hb6⟩ := hv10
    obtain rfl := vbool_eq hv10
    exact ⟨hb6, Z⟩
   · exact fun w9 D hS3 hd3 => Zs (E' := [(6, (.bool true))]) ⟨dpE hd3 1 Z Z, Zt⟩ (Zp Z (Zm Z Z Zb))
   ·
    intro w10 D hS4 hd4
    have hl10 := Le.no M hS4
    exact Zs (E' := [(7, (.bool true)), (3, (.pointer (some p2)))]) ⟨dpE hd4 2 Z Z, Z, Zt⟩ (dg_on Z Z Z Z (Zl (R := RBox) Z Z (ARep.mono hl10 hp2) (Tryd.sizeOf25 _) (Tryd.isAgg25 _) fun v11 hv11 => ⟨BX.refl _ _, hv11⟩))
   ·
    intro w11 D hS5 hd5
    have hl11 := Le.no M hS5
    have hC11 := hC2.no hS5
    have d5 : PV RBox M a_b (D 3) w11 := dpA hd5 3 Z
    generalize hq2 : (D 3) = v12 at d5
    refine Zs (E' := [(8, v12), (7, (.bool true))]) ⟨congrArg some hq2, dpE hd5 2 Z Z, Zt⟩ (dg_on Z Z Z Z (Zk Z Z Tryd.call31 (w_impl_BoxValid (hG.mono (lz1.trans hl11)) hC11.old d5 hx2) fun v13 w12 hv13 => ?_))
    obtain ⟨hv13, hb7⟩ := hv13
    obtain rfl := vbool_eq hv13
    exact ⟨hb7, Z⟩
   · exact fun w13 D hS6 hd6 => Zs (E' := [(7, (.bool true)), (9, (.bool true))]) ⟨dpE hd6 2 Z Z, dpE hd6 4 Z Z, Zt⟩ (Zp Z (ow_pickT Z Z Z Zb))
   · exact fun w14 D hS7 hd7 => Zs (E' := [(10, (.bool true))]) ⟨dpE hd7 5 Z Z, Zt⟩ (Zp Z (Zm Z Z Zb))
   ·
    intro w15 D hS8 hd8
    have hl15 := Le.no M hS8
    exact Zs (E' := [(11, (.bool true)), (2, (.pointer (some p1)))]) ⟨dpE hd8 6 Z Z, Z, Zt⟩ (dg_on Z Z Z Z (Zl (R := RBox) Z Z (ARep.mono (hl2.trans hl15) hp1) (Tryd.sizeOf25 _) (Tryd.isAgg25 _) fun v14 hv14 => ⟨BX.refl _ _, hv14⟩))
   ·
    intro w16 D hS9 hd9
    have hl16 := Le.no M hS9
    have hC16 := hC2.no hS9
    have d13 : PV RBox M a_a (D 7) w16 := dpA hd9 7 Z
    generalize hq3 : (D 7) = v15 at d13
    refine Zs (E' := [(12, v15), (11, (.bool true))]) ⟨congrArg some hq3, dpE hd9 6 Z Z, Zt⟩ (dg_on Z Z Z Z (Zk Z Z Tryd.call32 (w_impl_sidesOf (hG.mono (lz1.trans hl16)) hC16.old d13 hx3) fun v16 w17 hv16 => ?_))
    obtain ⟨hv16, hb8⟩ := hv16
    exact ⟨hb8, hv16⟩
   ·
    intro w18 D hS10 hd10
    have hl18 := Le.no M hS10
    exact Zs (E' := [(11, (.bool true)), (3, (.pointer (some p2)))]) ⟨dpE hd10 6 Z Z, Z, Zt⟩ (dg_on Z Z Z Z (Zl (R := RBox) Z Z (ARep.mono hl18 hp2) (Tryd.sizeOf25 _) (Tryd.isAgg25 _) fun v17 hv17 => ⟨BX.refl _ _, hv17⟩))
   ·
    intro w19 D hS11 hd11
    have d25 : PV (RArr 4 (RSlice RSpan)) M x3 (D 8) w19 := dpA hd11 8 Z
    have d26 : PV RBox M a_b (D 9) w19 := dpA hd11 9 Z
    have hl19 := Le.no M hS11
    have hC19 := hC2.no hS11
    generalize hq4 : (D 8) = v18 at d25
    generalize hq5 : (D 9) = v19 at d26
    refine lw_sub (E' := [(11, (.bool true)), (13, v18), (14, v19), (2, (.pointer (some p1))), (3, (.pointer (some p2))), (4, (.bool false))]) ⟨dpE hd11 6 Z Z, congrArg some hq4, congrArg some hq5, Z, Z, Z, Zt⟩ ?_
    replace h := bind_some h
    obtain ⟨x4, hx4, h⟩ := h
    refine lw_on Z Z Z Z Z Z (Zk Z Z Tryd.call32 (w_impl_sidesOf (hG.mono (lz1.trans hl19)) hC19.old d26 hx4) fun v20 w20 hv20 => ?_)
    obtain ⟨hv20, hb9⟩ := hv20
    have hl20 := Le.no M hb9
    have hC20 := hC19.no hb9
    replace h := bind_some h
    obtain ⟨x5, hx5, h⟩ := h
    have lz2 := ((lz1.trans hl19).trans hl20)
    refine lw_on Z Z Z Z Z Z (Zk Z Z Tryd.call44 (w_impl_sides_within (hG.mono lz2) hC20.old (VRep.mono hl20 d25) hv20 hx5) fun v21 w21 hv21 => ?_)
    obtain ⟨hv21, hb10⟩ := hv21
    have hC21 := hC20.no hb10
    obtain rfl := vbool_eq hv21
    refine Zo Z Z Z (ow_pickT Z Z Z (Zo Z Z Z (Za Z Z (Zn (Ze (Zy ?_))))))
    obtain rfl := sj h
    exact ew_ret (res1 Z (.tmp Z)) ⟨_, Z, ((vbool _)), hC21.bx⟩
  ·
   subst hc2
   have lz3 := (hl1.trans hl2)
   refine cw_sub (E' := [(2, (.pointer (some p1))), (3, (.pointer (some p2))), (4, (.bool false))]) ⟨Z, Z, Z, Zt⟩ (cw_drawQ 10 [PV RBox M a_a, PEq (.bool true), PEq (.bool true), PV RBox M a_b, PEq (.bool false), PEq (.bool false), PEq (.bool false), PEq undef, PEq undef, PEq undef] (by kernel_rfl) Z (by kernel_rfl) ⟨PV.mono _ _ _, Zq, Zq, PV.mono _ _ _, Zq, Zq, Zq, Zq, Zq, Zq, Zt⟩ ⟨?_, ?_, ?_, ?_, ?_, ?_, ?_, ?_, ?_, ?_, Zt⟩ ?_)
   ·
    intro w22 D hS12 hd12
    have hl22 := Le.no M hS12
    exact Zs (E' := [(2, (.pointer (some p1)))]) ⟨Z, Zt⟩ (Zp Z (Zl (R := RBox) Z Z (ARep.mono (hl2.trans hl22) hp1) (Tryd.sizeOf25 _) (Tryd.isAgg25 _) fun v22 hv22 => ⟨BX.refl _ _, hv22⟩))
   ·
    intro w23 D hS13 hd13
    have hl23 := Le.no M hS13
    have hC23 := hC2.no hS13
    have d27 : PV RBox M a_a (D 0) w23 := dpA hd13 0 Z
    generalize hq6 : (D 0) = v23 at d27
    refine Zs (E' := [(5, v23)]) ⟨congrArg some hq6, Zt⟩ (Zp Z (Zk Z Z Tryd.call31 (w_impl_BoxValid (hG.mono (lz3.trans hl23)) hC23.old d27 hx1) fun v24 w24 hv24 => ?_))
    obtain ⟨hv24, hb11⟩ := hv24
    obtain rfl := vbool_eq hv24
    exact ⟨hb11, Z⟩
   · exact fun w25 D hS14 hd14 => Zs (E' := [(6, (.bool true))]) ⟨dpE hd14 1 Z Z, Zt⟩ (Zp Z (Zm Z Z Zb))
   ·
    intro w26 D hS15 hd15
    have hl26 := Le.no M hS15
    exact Zs (E' := [(7, (.bool true)), (3, (.pointer (some p2)))]) ⟨dpE hd15 2 Z Z, Z, Zt⟩ (dg_on Z Z Z Z (Zl (R := RBox) Z Z (ARep.mono hl26 hp2) (Tryd.sizeOf25 _) (Tryd.isAgg25 _) fun v25 hv25 => ⟨BX.refl _ _, hv25⟩))
   ·
    intro w27 D hS16 hd16
    have hl27 := Le.no M hS16
    have hC27 := hC2.no hS16
    have d31 : PV RBox M a_b (D 3) w27 := dpA hd16 3 Z
    generalize hq7 : (D 3) = v26 at d31
    refine Zs (E' := [(8, v26), (7, (.bool true))]) ⟨congrArg some hq7, dpE hd16 2 Z Z, Zt⟩ (dg_on Z Z Z Z (Zk Z Z Tryd.call31 (w_impl_BoxValid (hG.mono (lz3.trans hl27)) hC27.old d31 hx2) fun v27 w28 hv27 => ?_))
    obtain ⟨hv27, hb12⟩ := hv27
    obtain rfl := vbool_eq hv27
    exact ⟨hb12, Z⟩
   · exact fun w29 D hS17 hd17 => Zs (E' := [(7, (.bool true)), (9, (.bool false))]) ⟨dpE hd17 2 Z Z, dpE hd17 4 Z Z, Zt⟩ (Zp Z (ow_pickT Z Z Z Zb))
   · exact fun w30 D hS18 hd18 => Zs (E' := [(10, (.bool false))]) ⟨dpE hd18 5 Z Z, Zt⟩ (Zp Z (Zm Z Z Zb))
   · exact fun w31 D hS19 hd19 => Zs (E' := [(11, (.bool false)), (2, (.pointer (some p1)))]) ⟨dpE hd19 6 Z Z, Z, Zt⟩ (dg_off Z Z Z Z Zb)
   · exact fun w32 D hS20 hd20 => Zs (E' := [(12, undef), (11, (.bool false))]) ⟨dpE hd20 7 Z Z, dpE hd20 6 Z Z, Zt⟩ (dg_off Z Z Z Z Zb)
   · exact fun w33 D hS21 hd21 => Zs (E' := [(11, (.bool false)), (3, (.pointer (some p2)))]) ⟨dpE hd21 6 Z Z, Z, Zt⟩ (dg_off Z Z Z Z Zb)
   ·
    intro w34 D hS22 hd22
    have hC34 := hC2.no hS22
    refine lw_sub (E' := [(11, (.bool false)), (13, undef), (14, undef), (2, (.pointer (some p1))), (3, (.pointer (some p2))), (4, (.bool false))]) ⟨dpE hd22 6 Z Z, dpE hd22 8 Z Z, dpE hd22 9 Z Z, Z, Z, Z, Zt⟩ (lw_off Z Z Z Z Z Z (lw_off Z Z Z Z Z Z (Zo Z Z Z (ow_pickF Z Z Z (Zo Z Z Z (Za Z Z (Zn (Ze (Zy ?_)))))))))
    obtain rfl := sj h
    exact ew_ret (res1 Z (.tmp Z)) ⟨_, Z, ((vbool _)), hC34.bx⟩
 ·
  subst hc1
  have lz4 := (hl1.trans hl2)
  refine cw_sub (E' := [(2, (.pointer (some p1))), (3, (.pointer (some p2))), (4, (.bool false))]) ⟨Z, Z, Z, Zt⟩ (cw_drawQ 10 [PV RBox M a_a, PEq (.bool false), PEq (.bool false), PEq undef, PEq undef, PEq (.bool false), PEq (.bool false), PEq undef, PEq undef, PEq undef] (by kernel_rfl) Z (by kernel_rfl) ⟨PV.mono _ _ _, Zq, Zq, Zq, Zq, Zq, Zq, Zq, Zq, Zq, Zt⟩ ⟨?_, ?_, ?_, ?_, ?_, ?_, ?_, ?_, ?_, ?_, Zt⟩ ?_)
  ·
   intro w35 D hS23 hd23
   have hl35 := Le.no M hS23
   exact Zs (E' := [(2, (.pointer (some p1)))]) ⟨Z, Zt⟩ (Zp Z (Zl (R := RBox) Z Z (ARep.mono (hl2.trans hl35) hp1) (Tryd.sizeOf25 _) (Tryd.isAgg25 _) fun v28 hv28 => ⟨BX.refl _ _, hv28⟩))
  ·
   intro w36 D hS24 hd24
   have hl36 := Le.no M hS24
   have hC36 := hC2.no hS24
   have d53 : PV RBox M a_a (D 0) w36 := dpA hd24 0 Z
   generalize hq8 : (D 0) = v29 at d53
   refine Zs (E' := [(5, v29)]) ⟨congrArg some hq8, Zt⟩ (Zp Z (Zk Z Z Tryd.call31 (w_impl_BoxValid (hG.mono (lz4.trans hl36)) hC36.old d53 hx1) fun v30 w37 hv30 => ?_))
   obtain ⟨hv30, hb13⟩ := hv30
   obtain rfl := vbool_eq hv30
   exact ⟨hb13, Z⟩
  · exact fun w38 D hS25 hd25 => Zs (E' := [(6, (.bool false))]) ⟨dpE hd25 1 Z Z, Zt⟩ (Zp Z (Zm Z Z Zb))
  · exact fun w39 D hS26 hd26 => Zs (E' := [(7, (.bool false)), (3, (.pointer (some p2)))]) ⟨dpE hd26 2 Z Z, Z, Zt⟩ (dg_off Z Z Z Z Zb)
  · exact fun w40 D hS27 hd27 => Zs (E' := [(8, undef), (7, (.bool false))]) ⟨dpE hd27 3 Z Z, dpE hd27 2 Z Z, Zt⟩ (dg_off Z Z Z Z Zb)
  · exact fun w41 D hS28 hd28 => Zs (E' := [(7, (.bool false)), (9, undef)]) ⟨dpE hd28 2 Z Z, dpE hd28 4 Z Z, Zt⟩ (Zp Z (ow_pickF Z Z Z Zb))
  · exact fun w42 D hS29 hd29 => Zs (E' := [(10, (.bool false))]) ⟨dpE hd29 5 Z Z, Zt⟩ (Zp Z (Zm Z Z Zb))
  · exact fun w43 D hS30 hd30 => Zs (E' := [(11, (.bool false)), (2, (.pointer (some p1)))]) ⟨dpE hd30 6 Z Z, Z, Zt⟩ (dg_off Z Z Z Z Zb)
  · exact fun w44 D hS31 hd31 => Zs (E' := [(12, undef), (11, (.bool false))]) ⟨dpE hd31 7 Z Z, dpE hd31 6 Z Z, Zt⟩ (dg_off Z Z Z Z Zb)
  · exact fun w45 D hS32 hd32 => Zs (E' := [(11, (.bool false)), (3, (.pointer (some p2)))]) ⟨dpE hd32 6 Z Z, Z, Zt⟩ (dg_off Z Z Z Z Zb)
  ·
   intro w46 D hS33 hd33
   have hC46 := hC2.no hS33
   refine lw_sub (E' := [(11, (.bool false)), (13, undef), (14, undef), (2, (.pointer (some p1))), (3, (.pointer (some p2))), (4, (.bool false))]) ⟨dpE hd33 6 Z Z, dpE hd33 8 Z Z, dpE hd33 9 Z Z, Z, Z, Z, Zt⟩ (lw_off Z Z Z Z Z Z (lw_off Z Z Z Z Z Z (Zo Z Z Z (ow_pickF Z Z Z (Zo Z Z Z (Za Z Z (Zn (Ze (Zy ?_)))))))))
   obtain rfl := sj h
   exact ew_ret (res1 Z (.tmp Z)) ⟨_, Z, ((vbool _)), hC46.bx⟩

theorem w_impl_inBoth {w : World} {M : Nat → Prop} (_hG : ARep (RArr 4 RShape) w M shapes ⟨0, 0, none⟩) (hO : ∀ b, M b → b < w.heap.size) {b0 a_inA : Bool} (h0 : b0 = a_inA) {b1 a_inB : Bool} (h1 : b1 = a_inB) {r : Bool} (h : F.impl_inBoth a_inA a_inB = some r) :
  Calls Tryd.prog 100 [(.bool b0), (.bool b1)].toArray w fun e w' => ∃ v, e = .returned v ∧ VRep RBool w' M r v ∧ BX No w w' := by
 have hC : Cx No w M w M := Cx.start hO (fun _ e => e.elim)
 clear _hG
 refine walk (N := 9) Tryd.func100 Z Tryd.ntmps100 Z (cw_seq (Zr (Zo Z Z Z (Za Z Z (Zn (Ze (cw_seq (Zr (Zo Z Z Z (Zm Z Z (Zo Z Z Z (Zm Z Z ?_))))))))))))
 replace h := Zc h
 rcases h with ⟨hc1, h⟩ | ⟨hc1, h⟩
 ·
  obtain rfl := h0.trans hc1
  refine lw_on Z Z Z Z Z Z (Zm Z Z (Zo Z Z Z (ow_pickT Z Z Z (Zo Z Z Z (Za Z Z (Zn (Ze (Zy ?_))))))))
  obtain rfl := sj h
  exact ew_ret (res1 Z (.tmp Z)) ⟨_, Z, ((vbool_of h1)), hC.bx⟩
 ·
  obtain rfl := h0.trans hc1
  refine lw_off Z Z Z Z Z Z (Zo Z Z Z (ow_pickF Z Z Z (Zo Z Z Z (Za Z Z (Zn (Ze (Zy ?_)))))))
  obtain rfl := sj h
  exact ew_ret (res1 Z (.tmp Z)) ⟨_, Z, ((vbool _)), hC.bx⟩

theorem w_impl_limitSpans {w : World} {M : Nat → Prop} (_hG : ARep (RArr 4 RShape) w M shapes ⟨0, 0, none⟩) (hO : ∀ b, M b → b < w.heap.size) {v0p : Value} {a_list : List Span} (h0 : VRep (RSlice RSpan) w M a_list v0p) {r : (List Span) × Bool} (h : F.impl_limitSpans a_list = some r) :
  Calls Tryd.prog 99 [v0p].toArray w fun e w' => ∃ v, e = .returned v ∧ (∃ u0 u1, v = .tuple #[u0, u1] ∧ VRep (RSlice RSpan) w' M r.1 u0 ∧ VRep RBool w' M r.2 u1) ∧ BX No w w' := by
 have hC : Cx No w M w M := Cx.start hO (fun _ e => e.elim)
 clear _hG
 refine walk (N := 8) Tryd.func99 Z Tryd.ntmps99 Z (cw_seq (Zr (Zo Z Z Z (Za Z Z (Zo Z Z Z (Za Z Z (Zn (Ze (cw_seq (cw_seq (Zr (Zo Z Z Z (Zm Z Z (Zo Z Z Z (ow_len Z Z h0 Tryd.underlying59 Z (Zo Z Z Z (ow_gtr Z Z Z fun bb1 hbb1 => Zn (Ze ?_))))))))))))))))))
 replace h := Zc h
 rcases h with ⟨hc1, h⟩ | ⟨hc1, h⟩
 ·
  obtain rfl := hbb1.trans hc1
  refine cw_true Z (cw_seq (Zr (Zo Z Z Z (Za Z Z (Zo Z Z Z (Za Z Z (Zn (Ze (Zy (Zh ?_))))))))))
  obtain rfl := sj h
  exact ew_ret (res2 Z (.tmp Z) (.tmp Z)) ⟨_, Z, ⟨_, _, Z, (VRep.mono hC.back (vslice_nil (R := RSpan) (w := w) (M := M))), ((vbool _))⟩, hC.bx⟩
 ·
  obtain rfl := hbb1.trans hc1
  refine Zu Z (cw_skip (Ze (cw_seq (Zr (Zo Z Z Z (Zm Z Z (Zo Z Z Z (Za Z Z (Zo Z Z Z (Za Z Z (Zn (Ze (Zy ?_)))))))))))))
  obtain rfl := sj h
  exact ew_ret (res2 Z (.tmp Z) (.tmp Z)) ⟨_, Z, ⟨_, _, Z, (VRep.mono hC.back h0), ((vbool _))⟩, hC.bx⟩

theorem w_impl_sweepSpans__impl_inBoth {w : World} {M : Nat → Prop} (hG : ARep (RArr 4 RShape) w M shapes ⟨0, 0, none⟩) (hO : ∀ b, M b → b < w.heap.size) {v0p : Value} {a_a : List Span} (h0 : VRep (RSlice RSpan) w M a_a v0p) {v1p : Value} {a_b : List Span} (h1 : VRep (RSlice RSpan) w M a_b v1p) {a_top : Int} {r : (List Span)} (h : F.impl_sweepSpans__impl_inBoth a_a a_b a_top = some r) :
  Calls Tryd.prog 78 [v0p, v1p, (.int .i64 a_top), (.func (.func 100) #[] #[])].toArray w fun e w' => ∃ v, e = .returned v ∧ VRep (RSlice RSpan) w' M r v ∧ BX No w w' := by
 obtain ⟨i69, hi69, hz69, hs69, hy69⟩ := info69
 have hC : Cx No w M w M := Cx.start hO (fun _ e => e.elim)
 refine walk (N := 107) Tryd.func78 Z Tryd.ntmps78 Z (cw_seq (Zr (Zo Z Z Z (Za Z Z (Zn (Ze (cw_seq (Zr (Zo Z Z Z (Za Z Z (Zn (Ze (cw_seq (Zr (Zo Z Z Z (Za Z Z (Zo Z Z Z (Za Z Z (Zn (Ze (cw_seq (cw_seq (Zr (Zo Z Z Z (Za Z Z (Zn (Ze ?_)))))))))))))))))))))))))))
 have hr1 : OwnRow RSpan w.heap.size 69 w M ([] : List Span) (.slice none 0 0) := ownrow_nil
 replace h := bind_some h
 obtain ⟨lr1, hlr1, h⟩ := h
 refine cw_for hlr1 (fun s a w' => ∃ (M' : Nat → Prop) (v0c : Value), Fits 107 [(0, v0p), (1, v1p), (2, (Zv a_top)), (3, (.func (.func 100) #[] #[])), (9, v0c), (10, (Zv s.2.1)), (11, (Zv s.2.2.1)), (12, (Zv s.2.2.2))] a ∧ Le w M w' M' ∧ Cx No w M w' M' ∧ OwnRow RSpan w.heap.size 69 w' M' s.1 v0c) ?_ ?_ ?_
 · exact fun a ha => ⟨M, (.slice none 0 0), ha.sub ⟨Z, Z, Z, Z, Z, Z, Z, Z, Zt⟩, Le.refl _ _, hC, hr1⟩
 ·
  rintro ⟨y1, k1, k2, k3⟩ a w1 sr1 ⟨M1, v1, hF1, hl1, hC1, hw1⟩ hb1 hR1
  refine cw_at (E := [(0, v0p), (1, v1p), (2, (Zv a_top)), (3, (.func (.func 100) #[] #[])), (9, v1), (10, (Zv k1)), (11, (Zv k2)), (12, (Zv k3))]) hF1 (cw_seq (cw_seq (Zr (Zo Z Z Z (Zm Z Z (Zo Z Z Z (Zm Z Z (Zo Z Z Z (ow_leq Z Z Z fun bb1 hbb1 => Zn (Ze ?_))))))))))
  replace hb1 := Zc hb1
  rcases hb1 with ⟨hc1, hb1⟩ | ⟨hc1, hb1⟩
  ·
   obtain rfl := hbb1.trans hc1
   refine cw_true Z (cw_skip (Ze (cw_block (cw_seq ?_))))
   replace hb1 := bind_some hb1
   obtain ⟨lr2, hlr2, hb1⟩ := hb1
   refine cw_for hlr2 (fun s a w' => ∃ (M' : Nat → Prop), Fits 107 [(0, v0p), (1, v1p), (2, (Zv a_top)), (3, (.func (.func 100) #[] #[])), (9, v1), (10, (Zv s.1)), (11, (Zv k2)), (12, (Zv k3))] a ∧ Le w1 M1 w' M' ∧ Cx No w M w' M' ∧ OwnRow RSpan w.heap.size 69 w' M' s.2 v1) ?_ ?_ ?_
   · exact fun a ha => ⟨M1, ha.sub ⟨Z, Z, Z, Z, Z, Z, Z, Z, Zt⟩, Le.refl _ _, hC1, hw1⟩
   ·
    rintro ⟨k4, y2⟩ a w2 sr2 ⟨M2, hF2, hl2, hC2, hw2⟩ hb2 hR2
    refine cw_at (E := [(0, v0p), (1, v1p), (2, (Zv a_top)), (3, (.func (.func 100) #[] #[])), (9, v1), (10, (Zv k4)), (11, (Zv k2)), (12, (Zv k3))]) hF2 (cw_seq (cw_seq (Zr (Zo Z Z Z (Zm Z Z (Zo Z Z Z (Zm Z Z (Zo Z Z Z (ow_len Z Z (VRep.mono (hl1.trans hl2) h0) Tryd.underlying59 Z (Zo Z Z Z (ow_lss Z Z Z fun bb2 hbb2 => Zo Z Z Z (Zm Z Z ?_))))))))))))
    replace hb2 := Zc hb2
    rcases hb2 with ⟨hc2, hb2⟩ | ⟨hc2, hb2⟩
    ·
     obtain rfl := hbb2.trans hc2
     refine lw_on Z Z Z Z Z Z (Zm Z Z (lw_on Z Z Z Z Z Z (Zm Z Z ?_)))
     replace hb2 := bind_some hb2
     obtain ⟨x1, hx1, hb2⟩ := hb2
     refine lw_on Z Z Z Z Z Z (Zx (R := RSpan) Z Z Z (VRep.mono (hl1.trans hl2) h0) Tryd.underlying59 (Tryd.sizeOf69 _) hx1 fun p1 hp1 => lw_on Z Z Z Z Z Z (Zf Z Z Tryd.underlying69 Z (Tryd.sizeOf3 _) (lw_on Z Z Z Z Z Z (Zl (R := RInt) Z Z (hp1.fld fld_Span_Hi) (Tryd.sizeOf3 _) (Tryd.isAgg3 _) fun v7 hv7 => ?_))))
     obtain rfl := Zi hv7
     refine lw_on Z Z Z Z Z Z (Zm Z Z (lw_on Z Z Z Z Z Z (ow_lss Z Z Z fun bb3 hbb3 => Zo Z Z Z (ow_pickT Z Z Z (Zn (Ze ?_))))))
     replace hb2 := Zc hb2
     rcases hb2 with ⟨hc3, hb2⟩ | ⟨hc3, hb2⟩
     ·
      obtain rfl := hbb3.trans hc3
      exact cw_true Z (cw_skip (Ze (cw_block (Zr (Zo Z Z Z (Zm Z Z (Zo Z Z Z (ow_add Z Z Z (Zo Z Z Z (Za Z Z (Zn (ew_blockN (ew_nxt ((W (k4 + 1)), y2) hb2 fun a ha => ⟨M2, (ha.sub ⟨Z, Z, Z, Z, Z, Z, Z, Z, Zt⟩), hl2, hC2, hw2⟩)))))))))))))
     ·
      obtain rfl := hbb3.trans hc3
      exact Zu Z (cw_exit (ew_thenX (ew_thenX (ew_blockX (ew_brk (k4, y2) hb2 fun a ha => ⟨M2, (ha.sub ⟨Z, Z, Z, Z, Z, Z, Z, Z, Zt⟩), hl2, hC2, hw2⟩)))))
    ·
     obtain rfl := hbb2.trans hc2
     exact lw_off Z Z Z Z Z Z (lw_off Z Z Z Z Z Z (lw_off Z Z Z Z Z Z (lw_off Z Z Z Z Z Z (lw_off Z Z Z Z Z Z (lw_off Z Z Z Z Z Z (lw_off Z Z Z Z Z Z (Zo Z Z Z (ow_pickF Z Z Z (Zn (Ze (Zu Z (cw_exit (ew_thenX (ew_thenX (ew_blockX (ew_brk (k4, y2) hb2 fun a ha => ⟨M2, (ha.sub ⟨Z, Z, Z, Z, Z, Z, Z, Z, Zt⟩), hl2, hC2, hw2⟩))))))))))))))))
   ·
    rintro ⟨k5, y3⟩ a w3 hlr3 ⟨M3, hF3, hl3, hC3, hw3⟩
    subst hlr3
    refine ew_at (E := [(0, v0p), (1, v1p), (2, (Zv a_top)), (3, (.func (.func 100) #[] #[])), (9, v1), (10, (Zv k5)), (11, (Zv k2)), (12, (Zv k3))]) hF3 (Ze (cw_seq ?_))
    replace hb1 := bind_some hb1
    obtain ⟨lr3, hlr4, hb1⟩ := hb1
    refine cw_for hlr4 (fun s a w' => ∃ (M' : Nat → Prop), Fits 107 [(0, v0p), (1, v1p), (2, (Zv a_top)), (3, (.func (.func 100) #[] #[])), (9, v1), (10, (Zv k5)), (11, (Zv s.1)), (12, (Zv k3))] a ∧ Le w3 M3 w' M' ∧ Cx No w M w' M' ∧ OwnRow RSpan w.heap.size 69 w' M' s.2 v1) ?_ ?_ ?_
    · exact fun a ha => ⟨M3, ha.sub ⟨Z, Z, Z, Z, Z, Z, Z, Z, Zt⟩, Le.refl _ _, hC3, hw3⟩
    ·
     rintro ⟨k6, y4⟩ a w4 sr3 ⟨M4, hF4, hl4, hC4, hw4⟩ hb3 hR3
     refine cw_at (E := [(0, v0p), (1, v1p), (2, (Zv a_top)), (3, (.func (.func 100) #[] #[])), (9, v1), (10, (Zv k5)), (11, (Zv k6)), (12, (Zv k3))]) hF4 (cw_seq (cw_seq (Zr (Zo Z Z Z (Zm Z Z (Zo Z Z Z (Zm Z Z ?_)))))))
     have lz1 := ((hl1.trans hl3).trans hl4)
     refine Zo Z Z Z (ow_len Z Z (VRep.mono lz1 h1) Tryd.underlying59 Z (Zo Z Z Z (ow_lss Z Z Z fun bb4 hbb4 => Zo Z Z Z (Zm Z Z ?_))))
     replace hb3 := Zc hb3
     rcases hb3 with ⟨hc4, hb3⟩ | ⟨hc4, hb3⟩
     ·
      obtain rfl := hbb4.trans hc4
      refine lw_on Z Z Z Z Z Z (Zm Z Z (lw_on Z Z Z Z Z Z (Zm Z Z ?_)))
      replace hb3 := bind_some hb3
      obtain ⟨x2, hx2, hb3⟩ := hb3
      refine lw_on Z Z Z Z Z Z (Zx (R := RSpan) Z Z Z (VRep.mono lz1 h1) Tryd.underlying59 (Tryd.sizeOf69 _) hx2 fun p2 hp2 => lw_on Z Z Z Z Z Z (Zf Z Z Tryd.underlying69 Z (Tryd.sizeOf3 _) (lw_on Z Z Z Z Z Z (Zl (R := RInt) Z Z (hp2.fld fld_Span_Hi) (Tryd.sizeOf3 _) (Tryd.isAgg3 _) fun v12 hv12 => ?_))))
      obtain rfl := Zi hv12
      refine lw_on Z Z Z Z Z Z (Zm Z Z (lw_on Z Z Z Z Z Z (ow_lss Z Z Z fun bb5 hbb5 => Zo Z Z Z (ow_pickT Z Z Z (Zn (Ze ?_))))))
      replace hb3 := Zc hb3
      rcases hb3 with ⟨hc5, hb3⟩ | ⟨hc5, hb3⟩
      ·
       obtain rfl := hbb5.trans hc5
       exact cw_true Z (cw_skip (Ze (cw_block (Zr (Zo Z Z Z (Zm Z Z (Zo Z Z Z (ow_add Z Z Z (Zo Z Z Z (Za Z Z (Zn (ew_blockN (ew_nxt ((W (k6 + 1)), y4) hb3 fun a ha => ⟨M4, (ha.sub ⟨Z, Z, Z, Z, Z, Z, Z, Z, Zt⟩), hl4, hC4, hw4⟩)))))))))))))
      ·
       obtain rfl := hbb5.trans hc5
       exact Zu Z (cw_exit (ew_thenX (ew_thenX (ew_blockX (ew_brk (k6, y4) hb3 fun a ha => ⟨M4, (ha.sub ⟨Z, Z, Z, Z, Z, Z, Z, Z, Zt⟩), hl4, hC4, hw4⟩)))))
     ·
      obtain rfl := hbb4.trans hc4
      exact lw_off Z Z Z Z Z Z (lw_off Z Z Z Z Z Z (lw_off Z Z Z Z Z Z (lw_off Z Z Z Z Z Z (lw_off Z Z Z Z Z Z (lw_off Z Z Z Z Z Z (lw_off Z Z Z Z Z Z (Zo Z Z Z (ow_pickF Z Z Z (Zn (Ze (Zu Z (cw_exit (ew_thenX (ew_thenX (ew_blockX (ew_brk (k6, y4) hb3 fun a ha => ⟨M4, (ha.sub ⟨Z, Z, Z, Z, Z, Z, Z, Z, Zt⟩), hl4, hC4, hw4⟩))))))))))))))))
    ·
     rintro ⟨k7, y5⟩ a w5 hlr5 ⟨M5, hF5, hl5, hC5, hw5⟩
     subst hlr5
     refine ew_at (E := [(0, v0p), (1, v1p), (2, (Zv a_top)), (3, (.func (.func 100) #[] #[])), (9, v1), (10, (Zv k5)), (11, (Zv k7)), (12, (Zv k3))]) hF5 (Ze (cw_seq (Zr (Zo Z Z Z (Zm Z Z (Zo Z Z Z (Zm Z Z ?_)))))))
     replace hb1 := bind_some hb1
     obtain ⟨y6, hy6, hb1⟩ := hb1
     have lz2 := ((hl1.trans hl3).trans hl5)
     refine Zo Z Z Z (ow_sliceFrom (R := RSpan) Z Z Z (VRep.mono lz2 h0) Tryd.underlying59 (Tryd.sizeOf69 _) (dropF_some hy6).2 fun v15 hv15 => ?_)
     rw [← (dropF_some hy6).1] at hv15
     refine Zo Z Z Z (Zm Z Z (Zo Z Z Z (Zm Z Z ?_)))
     replace hb1 := bind_some hb1
     obtain ⟨x3, hx3, hb1⟩ := hb1
     refine Zo Z Z Z (Zk Z Z Tryd.call98 (w_impl_stretch (hG.mono lz2) hC5.old hv15 hx3) fun v16 w6 hv16 => ?_)
     obtain ⟨⟨v17, v18, rfl, hv17, hv18⟩, hb4⟩ := hv16
     have hl6 := Le.no M5 hb4
     have hC6 := hC5.no hb4
     have hr2 := hw5.no hb4
     obtain ⟨bb6, hbb6, rfl⟩ := vbool_ex hv17
     obtain rfl := Zi hv18
     refine Zo Z Z Z (Zm Z Z (Zo Z Z Z (ow_extract Z Z Z (Zo Z Z Z (ow_extract Z Z Z (Zo Z Z Z (Za Z Z (Zo Z Z Z (Za Z Z (Zn (Ze (cw_seq (Zr (Zo Z Z Z (Zm Z Z (Zo Z Z Z (Zm Z Z ?_)))))))))))))))))
     replace hb1 := bind_some hb1
     obtain ⟨y7, hy7, hb1⟩ := hb1
     refine Zo Z Z Z (ow_sliceFrom (R := RSpan) Z Z Z (VRep.mono (lz2.trans hl6) h1) Tryd.underlying59 (Tryd.sizeOf69 _) (dropF_some hy7).2 fun v19 hv19 => ?_)
     rw [← (dropF_some hy7).1] at hv19
     refine Zo Z Z Z (Zm Z Z (Zo Z Z Z (Zm Z Z ?_)))
     replace hb1 := bind_some hb1
     obtain ⟨x4, hx4, hb1⟩ := hb1
     refine Zo Z Z Z (Zk Z Z Tryd.call98 (w_impl_stretch (hG.mono (lz2.trans hl6)) hC6.old hv19 hx4) fun v20 w7 hv20 => ?_)
     obtain ⟨⟨v21, v22, rfl, hv21, hv22⟩, hb5⟩ := hv20
     have hl7 := Le.no M5 hb5
     have hC7 := hC6.no hb5
     have hr3 := hr2.no hb5
     obtain ⟨bb7, hbb7, rfl⟩ := vbool_ex hv21
     obtain rfl := Zi hv22
     refine Zo Z Z Z (Zm Z Z (Zo Z Z Z (ow_extract Z Z Z (Zo Z Z Z (ow_extract Z Z Z (Zo Z Z Z (Za Z Z (Zo Z Z Z (Za Z Z (Zn (Ze (cw_seq (Zr (Zo Z Z Z (Zm Z Z (Zo Z Z Z (Zm Z Z (Zo Z Z Z (ow_min Z Z Z (Zo Z Z Z (Za Z Z (Zn (Ze (cw_seq (cw_seq (Zr (Zo Z Z Z (Zm Z Z (Zo Z Z Z (Zm Z Z (Zo Z Z Z (Zm Z Z ?_))))))))))))))))))))))))))))))))
     replace hb1 := bind_some hb1
     obtain ⟨x5, hx5, hb1⟩ := hb1
     have lz3 := ((lz2.trans hl6).trans hl7)
     refine Zo Z Z Z (ow_callv Z Z Z Tryd.call100 (w_impl_inBoth (hG.mono lz3) hC7.old hbb6 hbb7 hx5) fun v23 w8 hv23 => ?_)
     obtain ⟨hv23, hb6⟩ := hv23
     have hl8 := Le.no M5 hb6
     have hC8 := hC7.no hb6
     have hr4 := hr3.no hb6
     obtain rfl := vbool_eq hv23
     refine Zn (Ze ?_)
     replace hb1 := Zc hb1
     rcases hb1 with ⟨hc6, hb1⟩ | ⟨hc6, hb1⟩
     ·
      subst hc6
      refine cw_true Z (cw_seq (Zr (Zo Z Z Z (Zm Z Z (Zo Z Z Z (ow_lenOwn Z Z hr4 Tryd.underlying59 (Zo Z Z Z (Za Z Z (Zn (Ze (cw_seq (Zr (Zo Z Z Z (Zm Z Z (Zo Z Z Z (ow_gtr Z Z Z fun bb8 hbb8 => Zo Z Z Z (Zm Z Z ?_)))))))))))))))))
      replace hb1 := Zc hb1
      rcases hb1 with ⟨hc7, hb1⟩ | ⟨hc7, hb1⟩
      ·
       obtain rfl := hbb8.trans hc7
       refine lw_on Z Z Z Z Z Z (Zm Z Z (lw_on Z Z Z Z Z Z (Zm Z Z (lw_on Z Z Z Z Z Z (ow_sub Z Z Z ?_)))))
       replace hb1 := bind_some hb1
       obtain ⟨x6, hx6, hb1⟩ := hb1
       refine lw_on Z Z Z Z Z Z (ow_indexRow (R := RSpan) Z Z Z hr4 Tryd.underlying59 (Tryd.sizeOf69 _) hx6 (lw_on Z Z Z Z Z Z (Zf Z Z Tryd.underlying69 Z (Tryd.sizeOf3 _) (lw_on Z Z Z Z Z Z (ow_loadElRow (R := RSpan) (S := RInt) Z Z Z hr4 (orow_blk hr4 hx6) hx6 fld_Span_Hi (Tryd.sizeOf3 _) (Tryd.isAgg3 _) fun v24 hv24 => ?_)))))
       obtain rfl := Zi hv24
       refine lw_on Z Z Z Z Z Z (ow_add Z Z Z (lw_on Z Z Z Z Z Z (Zm Z Z (lw_on Z Z Z Z Z Z (ow_eqlI Z Z Z fun bb9 hbb9 => Zo Z Z Z (ow_pickT Z Z Z (Zn (Ze ?_))))))))
       replace hb1 := Zc hb1
       rcases hb1 with ⟨hc8, hb1⟩ | ⟨hc8, hb1⟩
       ·
        obtain rfl := hbb9.trans hc8
        refine cw_true Z (Zr (Zo Z Z Z (Zm Z Z (Zo Z Z Z (Zm Z Z (Zo Z Z Z (ow_sub Z Z Z (Zo Z Z Z (Zm Z Z (Zo Z Z Z (ow_indexRow (R := RSpan) Z Z Z hr4 Tryd.underlying59 (Tryd.sizeOf69 _) hx6 (Zo Z Z Z (Zf Z Z Tryd.underlying69 Z (Tryd.sizeOf3 _) (lw_op0 Z Z (ow_storeElRow (X := No) (R := RSpan) (S := RInt) Z Z Z Z hr4 (orow_blk hr4 hx6) hx6 set_Span_Hi (Tryd.sizeOf3 _) (vint _) (Nat.le_refl _) hC8 fun w9 ho1 hb7 hl9 hC9 => Zn (Ze (Zr (Zo Z Z Z (Zm Z Z (Zo Z Z Z (ow_add Z Z Z (Zo Z Z Z (Za Z Z (Zn (ew_blockN ?_)))))))))))))))))))))))))
        have lz4 := ((lz3.trans hl8).trans hl9)
        exact ew_nxt ((List.set y5 ((W ((y5.length : Int) - 1)) : Int).toNat { x6 with Hi := (imin x3.2 x4.2) }), k5, k7, (W ((imin x3.2 x4.2) + 1))) hb1 fun a ha => ⟨M5, v1, (ha.sub ⟨Z, Z, Z, Z, Z, Z, Z, Z, Zt⟩), lz4, hC9, ho1⟩
       ·
        obtain rfl := hbb9.trans hc8
        refine Zu Z (Zr (Zo Z Z Z (Zm Z Z (Zo Z Z Z (Zm Z Z (Zo Z Z Z (Zm Z Z (Zo Z Z Z (ow_build (v := .agg #[(Zv k3), (Zv (imin x3.2 x4.2))]) Z Z (by kernel_rfl) ?_)))))))))
        have hw6 : VRep RSpan w8 M5 ({ Lo := k3, Hi := (imin x3.2 x4.2) } : Span) (.agg #[(Zv k3), (Zv (imin x3.2 x4.2))]) := shut_Span
        refine Zo Z Z Z (ow_buildSlice (R := RSpan) (xs := [({ Lo := k3, Hi := (imin x3.2 x4.2) } : Span)]) (cs := #[(Zv k3), (Zv (imin x3.2 x4.2))]) (e := 69) Z Z (by kernel_rfl) Z Z ⟨_, _, Z, hw6.cells, Z⟩ hC8 fun p3 w10 hw7 hb8 hl10 hC10 => ?_)
        have hr5 := hr4.no hb8
        replace hb1 := bind_some hb1
        obtain ⟨z1, hz1, hb1⟩ := hb1
        refine Zo Z Z Z (ow_append (R := RSpan) Z Z Z Z Tryd.underlying59 hi69 hz69 hs69 hy69 Z Z Z Z hr5 hw7 hz1 hC10 fun v25 w11 M6 hr6 hb9 hl11 hC11 hM1 hat1 => Zo Z Z Z (Za Z Z (Zn (Ze (Zr (Zo Z Z Z (Zm Z Z (Zo Z Z Z (ow_add Z Z Z (Zo Z Z Z (Za Z Z (Zn (ew_blockN ?_)))))))))))))
        have lz5 := (((lz3.trans hl8).trans hl10).trans hl11)
        exact ew_nxt (z1, k5, k7, (W ((imin x3.2 x4.2) + 1))) hb1 fun a ha => ⟨M6, v25, (ha.sub ⟨Z, Z, Z, Z, Z, Z, Z, Z, Zt⟩), lz5, hC11, hr6⟩
      ·
       obtain rfl := hbb8.trans hc7
       refine lw_off Z Z Z Z Z Z (lw_off Z Z Z Z Z Z (lw_off Z Z Z Z Z Z (lw_off Z Z Z Z Z Z (lw_off Z Z Z Z Z Z (lw_off Z Z Z Z Z Z (lw_off Z Z Z Z Z Z (lw_off Z Z Z Z Z Z (lw_off Z Z Z Z Z Z (Zo Z Z Z (ow_pickF Z Z Z (Zn (Ze (Zu Z (Zr (Zo Z Z Z (Zm Z Z (Zo Z Z Z (Zm Z Z (Zo Z Z Z (Zm Z Z (Zo Z Z Z (ow_build (v := .agg #[(Zv k3), (Zv (imin x3.2 x4.2))]) Z Z (by kernel_rfl) ?_))))))))))))))))))))))
       have hw8 : VRep RSpan w8 M5 ({ Lo := k3, Hi := (imin x3.2 x4.2) } : Span) (.agg #[(Zv k3), (Zv (imin x3.2 x4.2))]) := shut_Span
       refine Zo Z Z Z (ow_buildSlice (R := RSpan) (xs := [({ Lo := k3, Hi := (imin x3.2 x4.2) } : Span)]) (cs := #[(Zv k3), (Zv (imin x3.2 x4.2))]) (e := 69) Z Z (by kernel_rfl) Z Z ⟨_, _, Z, hw8.cells, Z⟩ hC8 fun p4 w12 hw9 hb10 hl12 hC12 => ?_)
       have hr7 := hr4.no hb10
       replace hb1 := bind_some hb1
       obtain ⟨z2, hz2, hb1⟩ := hb1
       refine Zo Z Z Z (ow_append (R := RSpan) Z Z Z Z Tryd.underlying59 hi69 hz69 hs69 hy69 Z Z Z Z hr7 hw9 hz2 hC12 fun v26 w13 M7 hr8 hb11 hl13 hC13 hM2 hat2 => Zo Z Z Z (Za Z Z (Zn (Ze (Zr (Zo Z Z Z (Zm Z Z (Zo Z Z Z (ow_add Z Z Z (Zo Z Z Z (Za Z Z (Zn (ew_blockN ?_)))))))))))))
       have lz6 := (((lz3.trans hl8).trans hl12).trans hl13)
       exact ew_nxt (z2, k5, k7, (W ((imin x3.2 x4.2) + 1))) hb1 fun a ha => ⟨M7, v26, (ha.sub ⟨Z, Z, Z, Z, Z, Z, Z, Z, Zt⟩), lz6, hC13, hr8⟩
     ·
      subst hc6
      exact Zu Z (cw_skip (Ze (Zr (Zo Z Z Z (Zm Z Z (Zo Z Z Z (ow_add Z Z Z (Zo Z Z Z (Za Z Z (Zn (ew_blockN (ew_nxt (y5, k5, k7, (W ((imin x3.2 x4.2) + 1))) hb1 fun a ha => ⟨M5, v1, (ha.sub ⟨Z, Z, Z, Z, Z, Z, Z, Z, Zt⟩), (lz3.trans hl8), hC8, hr4⟩))))))))))))
  ·
   obtain rfl := hbb1.trans hc1
   exact Zu Z (cw_exit (ew_thenX (ew_thenX (ew_blockX (ew_brk (y1, k1, k2, k3) hb1 fun a ha => ⟨M1, v1, (ha.sub ⟨Z, Z, Z, Z, Z, Z, Z, Z, Zt⟩), hl1, hC1, hw1⟩)))))
 ·
  rintro ⟨y8, k8, k9, k10⟩ a w14 hlr6 ⟨M8, v27, hF6, hl14, hC14, hw10⟩
  subst hlr6
  refine ew_at (E := [(0, v0p), (1, v1p), (2, (Zv a_top)), (3, (.func (.func 100) #[] #[])), (9, v27), (10, (Zv k8)), (11, (Zv k9)), (12, (Zv k10))]) hF6 (Ze (cw_seq (Zr (Zo Z Z Z (Zm Z Z (Zo Z Z Z (Za Z Z (Zn (Ze (Zy ?_))))))))))
  obtain rfl := sj h
  exact ew_ret (res1 Z (.tmp Z)) ⟨_, Z, (hw10.freezeBack hC14 hO), hC14.bx⟩

theorem w_impl_meetSpans {w : World} {M : Nat → Prop} (hG : ARep (RArr 4 RShape) w M shapes ⟨0, 0, none⟩) (hO : ∀ b, M b → b < w.heap.size) {v0p : Value} {a_a : List Span} (h0 : VRep (RSlice RSpan) w M a_a v0p) {v1p : Value} {a_b : List Span} (h1 : VRep (RSlice RSpan) w M a_b v1p) {a_top : Int} {r : (List Span) × Bool} (h : F.impl_meetSpans a_a a_b a_top = some r) :
  Calls Tryd.prog 80 [v0p, v1p, (.int .i64 a_top)].toArray w fun e w' => ∃ v, e = .returned v ∧ (∃ u0 u1, v = .tuple #[u0, u1] ∧ VRep (RSlice RSpan) w' M r.1 u0 ∧ VRep RBool w' M r.2 u1) ∧ BX No w w' := by
 have hC : Cx No w M w M := Cx.start hO (fun _ e => e.elim)
 refine walk (N := 15) Tryd.func80 Z Tryd.ntmps80 Z (cw_seq (Zr (Zo Z Z Z (Za Z Z (Zo Z Z Z (Za Z Z (Zn (Ze (cw_seq (Zr (Zo Z Z Z (Zm Z Z (Zo Z Z Z (Zm Z Z (Zo Z Z Z (Zm Z Z ?_))))))))))))))))
 replace h := bind_some h
 obtain ⟨x1, hx1, h⟩ := h
 refine Zo Z Z Z (Zk Z Z Tryd.call78 (w_impl_sweepSpans__impl_inBoth hG hC.old h0 h1 hx1) fun v1 w1 hv1 => ?_)
 obtain ⟨hv1, hb1⟩ := hv1
 have hl1 := Le.no M hb1
 have hC1 := hC.no hb1
 replace h := bind_some h
 obtain ⟨x2, hx2, h⟩ := h
 refine Zo Z Z Z (Zk Z Z Tryd.call99 (w_impl_limitSpans (hG.mono hl1) hC1.old hv1 hx2) fun v2 w2 hv2 => ?_)
 obtain ⟨⟨v3, v4, rfl, hv3, hv4⟩, hb2⟩ := hv2
 have hC2 := hC1.no hb2
 obtain ⟨bb1, hbb1, rfl⟩ := vbool_ex hv4
 refine Zo Z Z Z (ow_extract Z Z Z (Zo Z Z Z (ow_extract Z Z Z (Zo Z Z Z (Za Z Z (Zo Z Z Z (Za Z Z (Zn (Ze (Zy ?_))))))))))
 obtain rfl := sj h
 exact ew_ret (res2 Z (.tmp Z) (.tmp Z)) ⟨_, Z, ⟨_, _, Z, (VRep.mono hC2.back hv3), ((vbool_of hbb1))⟩, hC2.bx⟩

theorem w_impl_sides_meet {w : World} {M : Nat → Prop} (hG : ARep (RArr 4 RShape) w M shapes ⟨0, 0, none⟩) (hO : ∀ b, M b → b < w.heap.size) {v0p : Value} {a_s : List (List Span)} (h0 : VRep (RArr 4 (RSlice RSpan)) w M a_s v0p) {v1p : Value} {a_other : List (List Span)} (h1 : VRep (RArr 4 (RSlice RSpan)) w M a_other v1p) {r : (List (List Span)) × Bool} (h : F.impl_sides_meet a_s a_other = some r) :
  Calls Tryd.prog 45 [v0p, v1p].toArray w fun e w' => ∃ v, e = .returned v ∧ (∃ u0 u1, v = .tuple #[u0, u1] ∧ VRep (RArr 4 (RSlice RSpan)) w' M r.1 u0 ∧ VRep RBool w' M r.2 u1) ∧ BX No w w' := by
 have hC : Cx No w M w M := Cx.start hO (fun _ e => e.elim)
 refine walk (N := 33) Tryd.func45 Z Tryd.ntmps45 Z (cw_seq (Zr (Zo Z Z Z (ow_box (R := (RArr 4 (RSlice RSpan))) Z Z h0 hC fun p1 w1 hp1 hb1 hl1 hC1 => Zo Z Z Z (ow_box (R := (RArr 4 (RSlice RSpan))) Z Z (VRep.mono hl1 h1) hC1 fun p2 w2 hp2 hb2 hl2 hC2 => Zo Z Z Z (ow_alloc Z (Tryd.zeroValue61 _) hC2 fun g1 w3 hg1 hg2 ho1 hb3 hl3 hC3 => ?_))))))
 have hm1 : (Add g1 M) g1 := .inl Z
 have ho2 : OwnA (RArr 4 (RSlice RSpan)) w3 (Add g1 M) g1 61 [([] : List Span), ([] : List Span), ([] : List Span), ([] : List Span)] := OwnA.of ho1 ⟨Z, ⟨_, _, Z, (vslice_nil (R := RSpan) (w := w3) (M := (Add g1 M))).cells, _, _, Z, (vslice_nil (R := RSpan) (w := w3) (M := (Add g1 M))).cells, _, _, Z, (vslice_nil (R := RSpan) (w := w3) (M := (Add g1 M))).cells, _, _, Z, (vslice_nil (R := RSpan) (w := w3) (M := (Add g1 M))).cells, Z⟩⟩
 refine Zo Z Z Z (Za Z Z (Zn (Ze (cw_seq (Zr (Zo Z Z Z (ow_alloc Z (Tryd.zeroValue61 _) hC3 fun g2 w4 hg3 hg4 ho3 hb4 hl4 hC4 => ?_)))))))
 have hn1 := Nat.ne_of_lt (Nat.lt_of_lt_of_le ho2.lt hg3)
 have ho4 := ho2.no hb4 hl4
 have hm2 : (Add g2 (Add g1 M)) g1 := .inr hm1
 have hm3 : (Add g2 (Add g1 M)) g2 := .inl Z
 have ho5 : OwnA (RArr 4 (RSlice RSpan)) w4 (Add g2 (Add g1 M)) g2 61 [([] : List Span), ([] : List Span), ([] : List Span), ([] : List Span)] := OwnA.of ho3 ⟨Z, ⟨_, _, Z, (vslice_nil (R := RSpan) (w := w4) (M := (Add g2 (Add g1 M)))).cells, _, _, Z, (vslice_nil (R := RSpan) (w := w4) (M := (Add g2 (Add g1 M)))).cells, _, _, Z, (vslice_nil (R := RSpan) (w := w4) (M := (Add g2 (Add g1 M)))).cells, _, _, Z, (vslice_nil (R := RSpan) (w := w4) (M := (Add g2 (Add g1 M)))).cells, Z⟩⟩
 refine Zn (Ze (cw_seq (cw_seq (Zr (Zo Z Z Z (Zm Z Z (Zn (Ze ?_))))))))
 replace h := bind_some h
 obtain ⟨lr1, hlr1, h⟩ := h
 refine cw_for hlr1 (fun s a w' => ∃ (M' : Nat → Prop), Fits 33 [(2, (.pointer (some p1))), (3, (.pointer (some p2))), (4, (Zw g1 0)), (6, (Zw g2 0)), (10, (Zv s.1))] a ∧ Le w4 (Add g2 (Add g1 M)) w' M' ∧ Cx No w M w' M' ∧ OwnA (RArr 4 (RSlice RSpan)) w' M' g1 61 s.2.1 ∧ M' g1 ∧ OwnA (RArr 4 (RSlice RSpan)) w' M' g2 61 s.2.2 ∧ M' g2) ?_ ?_ ?_
 · exact fun a ha => ⟨(Add g2 (Add g1 M)), ha.sub ⟨Z, Z, Z, Z, Z, Zt⟩, Le.refl _ _, hC4, ho4, hm2, ho5, hm3⟩
 ·
  rintro ⟨k1, y1, y2⟩ a w5 sr1 ⟨M1, hF1, hl5, hC5, ho6, hm4, ho7, hm5⟩ hb5 hR1
  refine cw_at (E := [(2, (.pointer (some p1))), (3, (.pointer (some p2))), (4, (Zw g1 0)), (6, (Zw g2 0)), (10, (Zv k1))]) hF1 (cw_seq (Zr (Zo Z Z Z (ow_lss Z Z Z fun bb1 hbb1 => Zn (Ze (cw_seq ?_))))))
  replace hb5 := Zc hb5
  rcases hb5 with ⟨hc1, hb5⟩ | ⟨hc1, hb5⟩
  ·
   obtain rfl := hbb1.trans hc1
   refine cw_true Z (cw_skip (Ze (cw_seq (cw_block (cw_seq (Zr (Zo Z Z Z (Zm Z Z (Zo Z Z Z (Za Z Z (Zn (Ze (cw_seq ?_)))))))))))))
   replace hb5 := bind_some hb5
   obtain ⟨x1, hx1, hb5⟩ := hb5
   replace hb5 := bind_some hb5
   obtain ⟨x2, hx2, hb5⟩ := hb5
   replace hb5 := bind_some hb5
   obtain ⟨x3, hx3, hb5⟩ := hb5
   replace hb5 := bind_some hb5
   obtain ⟨x4, hx4, hb5⟩ := hb5
   have lz1 := ((((hl1.trans hl2).trans hl3).trans hl4).trans hl5)
   have lz2 := (((hl2.trans hl3).trans hl4).trans hl5)
   have lz3 := ((hl3.trans hl4).trans hl5)
   refine cw_sub (E' := [(2, (.pointer (some p1))), (3, (.pointer (some p2))), (4, (Zw g1 0)), (6, (Zw g2 0)), (7, (Zv k1)), (10, (Zv k1))]) ⟨Z, Z, Z, Z, Z, Z, Zt⟩ (cw_drawQ 13 [PEq (Zv k1), PA (RSlice RSpan) M1 x1, PV (RSlice RSpan) M1 x1, PEq (Zv k1), PA (RSlice RSpan) M1 x2, PV (RSlice RSpan) M1 x2, PEq (Zv k1), PEq (Zv x3), PT2 (PV (RSlice RSpan) M1 x4.1) (PEq (.bool x4.2)), PT2 (PV (RSlice RSpan) M1 x4.1) (PEq (.bool x4.2)), PV (RSlice RSpan) M1 x4.1, PEq (.bool x4.2), PV (RSlice RSpan) M1 x4.1] (by kernel_rfl) Z (by kernel_rfl) ⟨Zq, PA.mono _ _ _, PV.mono _ _ _, Zq, PA.mono _ _ _, PV.mono _ _ _, Zq, Zq, (PT2.mono (PV.mono _ _ _) (Zq)), (PT2.mono (PV.mono _ _ _) (Zq)), PV.mono _ _ _, Zq, PV.mono _ _ _, Zt⟩ ⟨?_, ?_, ?_, ?_, ?_, ?_, ?_, ?_, ?_, ?_, ?_, ?_, ?_, Zt⟩ ?_)
   · exact fun w8 D hS1 hd1 => Zs (E' := [(7, (Zv k1))]) ⟨Z, Zt⟩ (Zp Z (Zm Z Z Zb))
   ·
    intro w9 D hS2 hd2
    have hl9 := Le.no M1 hS2
    exact Zs (E' := [(14, (Zv k1)), (2, (.pointer (some p1)))]) ⟨dpE hd2 0 Z Z, Z, Zt⟩ (Zp Z (ow_indexArr (R := (RSlice RSpan)) Z Z Z (ARep.mono (lz2.trans hl9) hp1) Tryd.underlying61 (Tryd.sizeOf59 _) hx1 fun p5 hp5 => ⟨BX.refl _ _, ⟨_, Z, hp5⟩⟩))
   ·
    intro w10 D hS3 hd3
    have d2 : PA (RSlice RSpan) M1 x1 (D 1) w10 := dpA hd3 1 Z
    obtain ⟨p6, e1, ha1⟩ := d2
    exact Zs (E' := [(15, (.pointer (some p6)))]) ⟨congrArg some e1, Zt⟩ (Zp Z (Zl (R := (RSlice RSpan)) Z Z ha1 (Tryd.sizeOf59 _) (Tryd.isAgg59 _) fun v10 hv10 => ⟨BX.refl _ _, hv10⟩))
   · exact fun w11 D hS4 hd4 => Zs (E' := [(7, (Zv k1))]) ⟨Z, Zt⟩ (Zp Z (Zm Z Z Zb))
   ·
    intro w12 D hS5 hd5
    have hl12 := Le.no M1 hS5
    exact Zs (E' := [(17, (Zv k1)), (3, (.pointer (some p2)))]) ⟨dpE hd5 3 Z Z, Z, Zt⟩ (Zp Z (ow_indexArr (R := (RSlice RSpan)) Z Z Z (ARep.mono (lz3.trans hl12) hp2) Tryd.underlying61 (Tryd.sizeOf59 _) hx2 fun p7 hp7 => ⟨BX.refl _ _, ⟨_, Z, hp7⟩⟩))
   ·
    intro w13 D hS6 hd6
    have d4 : PA (RSlice RSpan) M1 x2 (D 4) w13 := dpA hd6 4 Z
    obtain ⟨p8, e2, ha2⟩ := d4
    exact Zs (E' := [(18, (.pointer (some p8)))]) ⟨congrArg some e2, Zt⟩ (Zp Z (Zl (R := (RSlice RSpan)) Z Z ha2 (Tryd.sizeOf59 _) (Tryd.isAgg59 _) fun v11 hv11 => ⟨BX.refl _ _, hv11⟩))
   · exact fun w14 D hS7 hd7 => Zs (E' := [(7, (Zv k1))]) ⟨Z, Zt⟩ (Zp Z (Zm Z Z Zb))
   ·
    intro w15 D hS8 hd8
    have hl15 := Le.no M1 hS8
    have hC15 := hC5.no hS8
    refine Zs (E' := [(20, (Zv k1))]) ⟨dpE hd8 6 Z Z, Zt⟩ (Zp Z (Zk Z Z Tryd.call68 (w_impl_FieldTop (hG.mono (lz1.trans hl15)) hC15.old hx3) fun v12 w16 hv12 => ?_))
    obtain ⟨hv12, hb8⟩ := hv12
    obtain rfl := Zi hv12
    exact ⟨hb8, Z⟩
   ·
    intro w17 D hS9 hd9
    have hl17 := Le.no M1 hS9
    have hC17 := hC5.no hS9
    have d6 : PV (RSlice RSpan) M1 x1 (D 2) w17 := dpA hd9 2 Z
    have d7 : PV (RSlice RSpan) M1 x2 (D 5) w17 := dpA hd9 5 Z
    generalize hq1 : (D 2) = v13 at d6
    generalize hq2 : (D 5) = v14 at d7
    refine Zs (E' := [(16, v13), (19, v14), (21, (Zv x3))]) ⟨congrArg some hq1, congrArg some hq2, dpE hd9 7 Z Z, Zt⟩ (Zp Z (Zk Z Z Tryd.call80 (w_impl_meetSpans (hG.mono (lz1.trans hl17)) hC17.old d6 d7 hx4) fun v15 w18 hv15 => ?_))
    obtain ⟨⟨v16, v17, rfl, hv16, hv17⟩, hb9⟩ := hv15
    obtain ⟨bb3, hbb3, rfl⟩ := vbool_ex hv17
    exact ⟨hb9, ⟨_, _, Z, hv16, (congrArg Value.bool hbb3)⟩⟩
   ·
    intro w19 D hS10 hd10
    have d10 : PT2 (PV (RSlice RSpan) M1 x4.1) (PEq (.bool x4.2)) (D 8) w19 := dpA hd10 8 Z
    obtain ⟨v18, v19, e3, hd11, hd12⟩ := d10
    obtain ⟨bb4, hq3, rfl⟩ : ∃ b, b = x4.2 ∧ v19 = .bool b := ⟨_, rfl, hd12⟩
    exact Zs (E' := [(22, (.tuple #[v18, (.bool bb4)]))]) ⟨congrArg some e3, Zt⟩ (Zp Z (Zm Z Z ⟨BX.refl _ _, ⟨_, _, Z, hd11, (congrArg Value.bool hq3)⟩⟩))
   ·
    intro w20 D hS11 hd13
    have d11 : PT2 (PV (RSlice RSpan) M1 x4.1) (PEq (.bool x4.2)) (D 9) w20 := dpA hd13 9 Z
    obtain ⟨v20, v21, e4, hd14, hd15⟩ := d11
    obtain ⟨bb5, hq4, rfl⟩ : ∃ b, b = x4.2 ∧ v21 = .bool b := ⟨_, rfl, hd15⟩
    exact Zs (E' := [(13, (.tuple #[v20, (.bool bb5)]))]) ⟨congrArg some e4, Zt⟩ (Zp Z (ow_extract Z Z Z ⟨BX.refl _ _, hd14⟩))
   ·
    intro w21 D hS12 hd16
    have d12 : PT2 (PV (RSlice RSpan) M1 x4.1) (PEq (.bool x4.2)) (D 9) w21 := dpA hd16 9 Z
    obtain ⟨v22, v23, e5, hd17, hd18⟩ := d12
    obtain ⟨bb6, hq5, rfl⟩ : ∃ b, b = x4.2 ∧ v23 = .bool b := ⟨_, rfl, hd18⟩
    exact Zs (E' := [(13, (.tuple #[v22, (.bool bb6)]))]) ⟨congrArg some e5, Zt⟩ (Zp Z (ow_extract Z Z Z ⟨BX.refl _ _, (congrArg Value.bool hq5)⟩))
   ·
    intro w22 D hS13 hd19
    have d13 : PV (RSlice RSpan) M1 x4.1 (D 10) w22 := dpA hd19 10 Z
    generalize hq6 : (D 10) = v24 at d13
    exact Zs (E' := [(23, v24)]) ⟨congrArg some hq6, Zt⟩ (Zp Z (Za Z Z ⟨BX.refl _ _, d13⟩))
   ·
    intro w23 D hS14 hd20
    have d37 : PEq (.bool x4.2) (D 11) w23 := dpA hd20 11 Z
    have d38 : PV (RSlice RSpan) M1 x4.1 (D 12) w23 := dpA hd20 12 Z
    have hl23 := Le.no M1 hS14
    have hC23 := hC5.no hS14
    have ho42 := ho6.no hS14 hl23
    have ho43 := ho7.no hS14 hl23
    obtain ⟨bb7, hq7, hq8⟩ : ∃ b, b = x4.2 ∧ (D 11) = .bool b := ⟨_, rfl, d37⟩
    generalize hq9 : (D 12) = v25 at d38
    refine lw_sub (E' := [(24, (.bool bb7)), (8, v25), (2, (.pointer (some p1))), (3, (.pointer (some p2))), (4, (Zw g1 0)), (6, (Zw g2 0)), (7, (Zv k1)), (10, (Zv k1))]) ⟨congrArg some hq8, congrArg some hq9, Z, Z, Z, Z, Z, Z, Zt⟩ (Zo Z Z Z (Za Z Z (Zn (Ze (cw_seq (cw_seq (Zr (Zo Z Z Z (Zm Z Z (Zo Z Z Z (ow_not Z Z (Zn (Ze ?_)))))))))))))
    replace hb5 := Zc hb5
    rcases hb5 with ⟨hc2, hb5⟩ | ⟨hc2, hb5⟩
    ·
     obtain rfl := hq7.trans hc2
     refine Zu Z (cw_skip (Ze (Zr (Zo Z Z Z (Zm Z Z (Zo Z Z Z (Zm Z Z ?_)))))))
     replace hb5 := bind_some hb5
     obtain ⟨x5, hx5, hb5⟩ := hb5
     refine Zo Z Z Z (ow_indexA (R := (RSlice RSpan)) Z Z Z Z ho43 Tryd.underlying61 (Tryd.sizeOf59 _) hx5 (lw_op0 Z Z (ow_storeElA (X := No) (R := (RSlice RSpan)) Z Z Z Z ho43 hx5 (Tryd.sizeOf59 _) d38 hm5 (.inl hg4) hC23 fun w24 ho44 hb10 hl24 hC24 => ?_)))
     have ho45 := ho42.go hb10 (fun e => hn1 e) hl24
     refine Zn (ew_blockN (Ze (Zr (Zo Z Z Z (ow_add Z Z Z (Zo Z Z Z (Zm Z Z (Zn ?_))))))))
     have lz4 := ((hl5.trans hl23).trans hl24)
     exact ew_nxt ((W (k1 + 1)), y1, (List.set y2 (k1 : Int).toNat x4.1)) hb5 fun a ha => ⟨M1, (ha.sub ⟨Z, Z, Z, Z, Z, Zt⟩), lz4, hC24, ho45, hm4, ho44, hm5⟩
    ·
     obtain rfl := hq7.trans hc2
     refine cw_true Z (cw_seq (Zr (Zo Z Z Z (ow_build (v := .agg #[(.slice none 0 0), (.slice none 0 0), (.slice none 0 0), (.slice none 0 0)]) Z Z (by kernel_rfl) ?_))))
     have hw1 : VRep (RArr 4 (RSlice RSpan)) w23 M1 [([] : List Span), ([] : List Span), ([] : List Span), ([] : List Span)] (.agg #[(.slice none 0 0), (.slice none 0 0), (.slice none 0 0), (.slice none 0 0)]) := ⟨_, ⟨Z, ⟨_, _, Z, (vslice_nil (R := RSpan) (w := w23) (M := M1)).cells, _, _, Z, (vslice_nil (R := RSpan) (w := w23) (M := M1)).cells, _, _, Z, (vslice_nil (R := RSpan) (w := w23) (M := M1)).cells, _, _, Z, (vslice_nil (R := RSpan) (w := w23) (M := M1)).cells, Z⟩⟩, Z⟩
     obtain ⟨cs1, h1, h2⟩ := ho42.own
     refine lw_op0 Z Z (ow_storeA (X := No) (R := (RArr 4 (RSlice RSpan))) Z Z Z Z h1 h2 (Tryd.sizeOf61 _) hw1 hm4 (.inl hg2) hC23 fun w25 ho46 hb11 hl25 hC25 => Zo Z Z Z (Za Z Z (Zn (Ze (Zy (Zh (ew_blockR (Zh (Zh (ew_blockR (ew_brkR (Zh ?_))))))))))))
     have e6 := hR1 _ (sj hb5).symm
     subst e6
     obtain rfl := sj h
     obtain ⟨v26, hq10, hw2⟩ := resA ho46 (Tryd.sizeOf61 _) (Tryd.isAgg61 _) rfl
     exact ew_ret (res2 Z (.cell Z hq10) (.tmp Z)) ⟨_, Z, ⟨_, _, Z, (hw2.mono hC25.back), ((vbool _))⟩, hC25.bx⟩
  ·
   obtain rfl := hbb1.trans hc1
   exact Zu Z (cw_exit (ew_thenX (ew_thenX (ew_blockX (ew_brk (k1, y1, y2) hb5 fun a ha => ⟨M1, (ha.sub ⟨Z, Z, Z, Z, Z, Zt⟩), hl5, hC5, ho6, hm4, ho7, hm5⟩)))))
 ·
  rintro ⟨k2, y3, y4⟩ a w26 hlr2 ⟨M2, hF2, hl26, hC26, ho48, hm6, ho49, hm7⟩
  subst hlr2
  refine ew_at (E := [(2, (.pointer (some p1))), (3, (.pointer (some p2))), (4, (Zw g1 0)), (6, (Zw g2 0)), (10, (Zv k2))]) hF2 (Ze (cw_seq (Zr (Zo Z Z Z (ow_loadA (R := (RArr 4 (RSlice RSpan))) Z Z Z ho49 (Tryd.sizeOf61 _) (Tryd.isAgg61 _) fun v30 hv30 => ?_)))))
  obtain ⟨cs2, h3, h4⟩ := ho48.own
  refine lw_op0 Z Z (ow_storeA (X := No) (R := (RArr 4 (RSlice RSpan))) Z Z Z Z h3 h4 (Tryd.sizeOf61 _) hv30 hm6 (.inl hg2) hC26 fun w27 ho50 hb12 hl27 hC27 => Zo Z Z Z (Za Z Z (Zn (Ze (Zy ?_)))))
  obtain rfl := sj h
  obtain ⟨v31, hq11, hw3⟩ := resA ho50 (Tryd.sizeOf61 _) (Tryd.isAgg61 _) rfl
  exact ew_ret (res2 Z (.cell Z hq11) (.tmp Z)) ⟨_, Z, ⟨_, _, Z, (hw3.mono hC27.back), ((vbool _))⟩, hC27.bx⟩

theorem w_impl_sides_box {w : World} {M : Nat → Prop} (_hG : ARep (RArr 4 RShape) w M shapes ⟨0, 0, none⟩) (hO : ∀ b, M b → b < w.heap.size) {v0p : Value} {a_s : List (List Span)} (h0 : VRep (RArr 4 (RSlice RSpan)) w M a_s v0p) {r : Box} (h : F.impl_sides_box a_s = some r) :
  Calls Tryd.prog 46 [v0p].toArray w fun e w' => ∃ v, e = .returned v ∧ VRep RBox w' M r v ∧ BX No w w' := by
 obtain ⟨i59, hi59, hz59, hs59, hy59⟩ := info59
 obtain ⟨i69, hi69, hz69, hs69, hy69⟩ := info69
 have hC : Cx No w M w M := Cx.start hO (fun _ e => e.elim)
 clear _hG
 refine walk (N := 21) Tryd.func46 Z Tryd.ntmps46 Z (cw_seq (Zr (Zo Z Z Z (ow_box (R := (RArr 4 (RSlice RSpan))) Z Z h0 hC fun p1 w1 hp1 hb1 hl1 hC1 => Zo Z Z Z (ow_alloc Z (Tryd.zeroValue25 _) hC1 fun g1 w2 hg1 hg2 ho1 hb2 hl2 hC2 => ?_)))))
 have hm1 : (Add g1 M) g1 := .inl Z
 refine Zn (Ze (cw_seq (Zr ?_)))
 replace h := bind_some h
 obtain ⟨mk1, hmk1, h⟩ := h
 refine Zo Z Z Z (ow_make (R := (RSlice RSpan)) Z Z Z Tryd.underlying23 hi59 hz59 hs59 hy59 Z Z vslice_nil hmk1 hC2 fun v1 w3 M1 hr1 hb3 hl3 hC3 hM1 hat1 => ?_)
 have ho2 := ho1.no hb3
 have hm2 := hM1 _ hm1
 obtain ⟨A1, c1, rfl⟩ := hr1.len
 refine Zo Z Z Z (ow_build (v := .agg #[(.slice A1 mk1.length c1)]) Z Z (by kernel_rfl) (Zo Z Z Z (ow_alloc Z (Tryd.zeroValue25 _) hC3 fun g2 w4 hg3 hg4 ho3 hb4 hl4 hC4 => ?_)))
 have hn1 := Nat.ne_of_lt (Nat.lt_of_lt_of_le ho2.lt hg3)
 have ho4 := ho2.no hb4
 have hm3 : (Add g2 M1) g1 := .inr hm2
 have hr2 := hr1.add hb4 hg3
 have hm4 : (Add g2 M1) g2 := .inl Z
 refine lw_op0 Z Z (ow_store (X := No) (us := [(.slice A1 mk1.length c1)]) (cs' := #[(.slice A1 mk1.length c1)]) Z Z Z Z ho3 (Tryd.sizeOf25 _) Z Z Z Z hm4 (.inl hg4) Z hC4 fun w5 ho5 hb5 hl5 hC5 => ?_)
 have ho6 := ho4.go hb5 (fun e => hn1 e)
 have hr3 := hr2.go hb5 (fun k hk e => (orow_ne hr2 ho3 (by decide)) (hk.trans (congrArg some e))) hl5 (fun _ h => h)
 refine Zn (Ze (cw_seq (cw_seq (Zr ?_))))
 have lz1 := (((hl2.trans hl3).trans hl4).trans hl5)
 refine Zo Z Z Z (Zl (R := (RArr 4 (RSlice RSpan))) Z Z (ARep.mono lz1 hp1) (Tryd.sizeOf61 _) (Tryd.isAgg61 _) fun v2 hv2 => Zo Z Z Z (Zm Z Z (Zn (Ze ?_))))
 replace h := bind_some h
 obtain ⟨lr1, hlr1, h⟩ := h
 refine cw_for hlr1 (fun s a w' => ∃ (M' : Nat → Prop), Fits 21 [(2, (Zw g1 0)), (3, (Zw g2 0)), (8, v2), (9, (Zv s.1))] a ∧ Le w5 (Add g2 M1) w' M' ∧ Cx No w M w' M' ∧ OwnRow (RSlice RSpan) w.heap.size 59 w' M' s.2 (.slice A1 mk1.length c1) ∧ Own w' g1 25 #[(.slice none 0 0)] ∧ M' g1 ∧ Own w' g2 25 #[(.slice A1 mk1.length c1)] ∧ M' g2) ?_ ?_ ?_
 · exact fun a ha => ⟨(Add g2 M1), ha.sub ⟨Z, Z, Z, Z, Zt⟩, Le.refl _ _, hC5, hr3, ho6, hm3, ho5, hm4⟩
 ·
  rintro ⟨k1, y1⟩ a w6 sr1 ⟨M2, hF1, hl6, hC6, hw1, ho7, hm5, ho8, hm6⟩ hb6 hR1
  refine cw_at (E := [(2, (Zw g1 0)), (3, (Zw g2 0)), (8, v2), (9, (Zv k1))]) hF1 (cw_seq (Zr (Zo Z Z Z (ow_lss Z Z Z fun bb1 hbb1 => Zn (Ze (cw_seq ?_))))))
  replace hb6 := Zc hb6
  rcases hb6 with ⟨hc1, hb6⟩ | ⟨hc1, hb6⟩
  ·
   obtain rfl := hbb1.trans hc1
   refine cw_true Z (cw_skip (Ze (cw_seq (cw_block (cw_seq (Zr (Zo Z Z Z (Zm Z Z ?_))))))))
   replace hb6 := bind_some hb6
   obtain ⟨x1, hx1, hb6⟩ := hb6
   refine Zo Z Z Z (ow_index (R := (RSlice RSpan)) Z Z Z (VRep.mono hl6 hv2) Tryd.underlying61 (Tryd.sizeOf59 _) (Tryd.isAgg59 _) hx1 fun v5 hv5 => Zo Z Z Z (Za Z Z (Zo Z Z Z (Za Z Z (Zn (Ze ?_))))))
   replace hb6 := bind_some hb6
   obtain ⟨z1, hz1, hb6⟩ := hb6
   refine cw_sub (E' := [(2, (Zw g1 0)), (3, (Zw g2 0)), (4, (Zv k1)), (5, v5), (8, v2), (9, (Zv k1))]) ⟨Z, Z, Z, Z, Z, Z, Zt⟩ (cw_drawQ 5 [PEq (Zw g2 0), PEq (.slice A1 mk1.length c1), PEq (Zv k1), PV (RSlice RSpan) M2 x1, PV (RSlice RSpan) M2 z1] (by kernel_rfl) Z (by kernel_rfl) ⟨Zq, Zq, Zq, PV.mono _ _ _, PV.mono _ _ _, Zt⟩ ⟨?_, ?_, ?_, ?_, ?_, Zt⟩ ?_)
   · exact fun w8 D hS1 hd1 => Zs (E' := [(3, (Zw g2 0))]) ⟨Z, Zt⟩ (Zp Z (Zf Z Z Tryd.underlying25 Z (Tryd.sizeOf23 _) Zb))
   ·
    intro w9 D hS2 hd2
    have ho14 := ho8.no hS2
    exact Zs (E' := [(13, (Zw g2 0))]) ⟨dpE hd2 0 Z Z, Zt⟩ (Zp Z (ow_loadOwn1 Z Z Z ho14 (Tryd.isAgg23 _) Z Zb))
   · exact fun w10 D hS3 hd3 => Zs (E' := [(4, (Zv k1))]) ⟨Z, Zt⟩ (Zp Z (Zm Z Z Zb))
   ·
    intro w11 D hS4 hd4
    have hl11 := Le.no M2 hS4
    exact Zs (E' := [(5, v5)]) ⟨Z, Zt⟩ (Zp Z (Zm Z Z ⟨BX.refl _ _, (VRep.mono hl11 hv5)⟩))
   ·
    intro w12 D hS5 hd5
    have hC12 := hC6.no hS5
    have d2 : PV (RSlice RSpan) M2 x1 (D 3) w12 := dpA hd5 3 Z
    generalize hq1 : (D 3) = v7 at d2
    exact Zs (E' := [(16, v7)]) ⟨congrArg some hq1, Zt⟩ (Zp Z (ow_appendCopy (R := RSpan) Z Z Z Z Tryd.underlying59 hi69 hz69 hs69 hy69 Z Z Z Z d2 hz1 hC12 fun v8 w13 hw3 hb8 hl13 hC13 => ⟨hb8, hw3⟩))
   ·
    intro w14 D hS6 hd6
    have d7 : PV (RSlice RSpan) M2 z1 (D 4) w14 := dpA hd6 4 Z
    have hl14 := Le.no M2 hS6
    have hC14 := hC6.no hS6
    have ho23 := ho7.no hS6
    have ho24 := ho8.no hS6
    have hr11 := hw1.no hS6
    generalize hq2 : (D 4) = v9 at d7
    refine lw_sub (E' := [(14, (.slice A1 mk1.length c1)), (15, (Zv k1)), (17, v9), (2, (Zw g1 0)), (3, (Zw g2 0)), (4, (Zv k1)), (5, v5), (8, v2), (9, (Zv k1))]) ⟨dpE hd6 1 Z Z, dpE hd6 2 Z Z, congrArg some hq2, Z, Z, Z, Z, Z, Z, Zt⟩ ?_
    replace hb6 := bind_some hb6
    obtain ⟨x2, hx2, hb6⟩ := hb6
    refine Zo Z Z Z (ow_indexRow (R := (RSlice RSpan)) Z Z Z hr11 Tryd.underlying23 (Tryd.sizeOf59 _) hx2 (lw_op0 Z Z (ow_storeElRow (X := No) (R := (RSlice RSpan)) (S := (RSlice RSpan)) Z Z Z Z hr11 (orow_blk hr11 hx2) hx2 (FldSet.whole (RSlice RSpan)) (Tryd.sizeOf59 _) d7 (Nat.le_refl _) hC14 fun w15 ho25 hb9 hl15 hC15 => ?_)))
    have ho26 := ho23.go hb9 (fun e => (orow_ne hr11 ho23 (by decide)) (by rw [orow_blk hr11 hx2]; exact congrArg some e.symm))
    have ho27 := ho24.go hb9 (fun e => (orow_ne hr11 ho24 (by decide)) (by rw [orow_blk hr11 hx2]; exact congrArg some e.symm))
    refine Zn (ew_blockN (Ze (Zr (Zo Z Z Z (ow_add Z Z Z (Zo Z Z Z (Zm Z Z (Zn ?_))))))))
    have lz3 := ((hl6.trans hl14).trans hl15)
    exact ew_nxt ((W (k1 + 1)), (List.set y1 (k1 : Int).toNat z1)) hb6 fun a ha => ⟨M2, (ha.sub ⟨Z, Z, Z, Z, Zt⟩), lz3, hC15, ho25, ho26, hm5, ho27, hm6⟩
  ·
   obtain rfl := hbb1.trans hc1
   exact Zu Z (cw_exit (ew_thenX (ew_thenX (ew_blockX (ew_brk (k1, y1) hb6 fun a ha => ⟨M2, (ha.sub ⟨Z, Z, Z, Z, Zt⟩), hl6, hC6, hw1, ho7, hm5, ho8, hm6⟩)))))
 ·
  rintro ⟨k2, y2⟩ a w16 hlr2 ⟨M3, hF2, hl16, hC16, hw4, ho28, hm7, ho29, hm8⟩
  subst hlr2
  refine ew_at (E := [(2, (Zw g1 0)), (3, (Zw g2 0)), (8, v2), (9, (Zv k2))]) hF2 (Ze (cw_seq (Zr (Zo Z Z Z (ow_loadOwnA Z Z Z ho29 (Tryd.isAgg25 _) (Tryd.sizeOf25 _) Z ?_)))))
  have hw5 := hw4.freezeDel
  have hC17 := hw4.cxDel hC16 (fun _ e => e.elim) hO
  have hm9 : (Del (.slice A1 mk1.length c1) M3) g1 := ⟨hm7, fun e => (orow_ne hw4 ho28 (by decide)) e⟩
  refine lw_op0 Z Z (ow_store (X := No) (us := [(.slice A1 mk1.length c1)]) (cs' := #[(.slice A1 mk1.length c1)]) Z Z Z Z ho28 (Tryd.sizeOf25 _) Z Z Z Z hm9 (.inl hg2) Z hC17 fun w17 ho30 hb10 hl18 hC18 => Zn (Ze (Zy ?_)))
  have hw7 : VRep RBox w17 (Del (.slice A1 mk1.length c1) M3) ({ Sides := y2 } : Box) (.agg #[(.slice A1 mk1.length c1)]) := shut_Box (VRep.mono hl18 hw5)
  obtain rfl := sj h
  exact ew_ret (res1 Z (.cell Z (own_loadVarA ho30 (Tryd.isAgg25 _) (Tryd.sizeOf25 _) Z))) ⟨_, Z, (hw7.mono hC18.back), hC18.bx⟩

theorem w_impl_BoxMeet {w : World} {M : Nat → Prop} (hG : ARep (RArr 4 RShape) w M shapes ⟨0, 0, none⟩) (hO : ∀ b, M b → b < w.heap.size) {v0p : Value} {a_a : Box} (h0 : VRep RBox w M a_a v0p) {v1p : Value} {a_b : Box} (h1 : VRep RBox w M a_b v1p) {r : Box} (h : F.impl_BoxMeet a_a a_b = some r) :
  Calls Tryd.prog 18 [v0p, v1p].toArray w fun e w' => ∃ v, e = .returned v ∧ VRep RBox w' M r v ∧ BX No w w' := by
 have hC : Cx No w M w M := Cx.start hO (fun _ e => e.elim)
 refine walk (N := 29) Tryd.func18 Z Tryd.ntmps18 Z (cw_seq (Zr (Zo Z Z Z (ow_box (R := RBox) Z Z h0 hC fun p1 w1 hp1 hb1 hl1 hC1 => Zo Z Z Z (ow_box (R := RBox) Z Z (VRep.mono hl1 h1) hC1 fun p2 w2 hp2 hb2 hl2 hC2 => Zo Z Z Z (ow_alloc Z (Tryd.zeroValue25 _) hC2 fun g1 w3 hg1 hg2 ho1 hb3 hl3 hC3 => ?_))))))
 have hm1 : (Add g1 M) g1 := .inl Z
 refine Zn (Ze (cw_seq (cw_seq (Zr (Zo Z Z Z (Zl (R := RBox) Z Z (ARep.mono (hl2.trans hl3) hp1) (Tryd.sizeOf25 _) (Tryd.isAgg25 _) fun v1 hv1 => ?_))))))
 replace h := bind_some h
 obtain ⟨x1, hx1, h⟩ := h
 have lz1 := ((hl1.trans hl2).trans hl3)
 refine Zo Z Z Z (Zk Z Z Tryd.call31 (w_impl_BoxValid (hG.mono lz1) hC3.old hv1 hx1) fun v2 w4 hv2 => ?_)
 obtain ⟨hv2, hb4⟩ := hv2
 have hl4 := Le.no (Add g1 M) hb4
 have hC4 := hC3.no hb4
 have ho2 := ho1.no hb4
 obtain rfl := vbool_eq hv2
 refine Zo Z Z Z (ow_not Z Z (Zo Z Z Z (Zm Z Z ?_)))
 replace h := Zc h
 rcases h with ⟨hc1, h⟩ | ⟨hc1, h⟩
 ·
  subst hc1
  refine lw_on Z Z Z Z Z Z (Zl (R := RBox) Z Z (ARep.mono (hl3.trans hl4) hp2) (Tryd.sizeOf25 _) (Tryd.isAgg25 _) fun v3 hv3 => ?_)
  replace h := bind_some h
  obtain ⟨x2, hx2, h⟩ := h
  refine lw_on Z Z Z Z Z Z (Zk Z Z Tryd.call31 (w_impl_BoxValid (hG.mono (lz1.trans hl4)) hC4.old hv3 hx2) fun v4 w5 hv4 => ?_)
  obtain ⟨hv4, hb5⟩ := hv4
  have hl5 := Le.no (Add g1 M) hb5
  have hC5 := hC4.no hb5
  have ho3 := ho2.no hb5
  obtain rfl := vbool_eq hv4
  refine lw_on Z Z Z Z Z Z (ow_not Z Z (Zo Z Z Z (ow_pickF Z Z Z (Zn (Ze ?_)))))
  replace h := Zc h
  rcases h with ⟨hc2, h⟩ | ⟨hc2, h⟩
  ·
   subst hc2
   refine Zu Z (cw_skip (Ze (cw_seq ?_)))
   replace h := bind_some h
   obtain ⟨x3, hx3, h⟩ := h
   replace h := bind_some h
   obtain ⟨x4, hx4, h⟩ := h
   replace h := bind_some h
   obtain ⟨x5, hx5, h⟩ := h
   have lz2 := ((lz1.trans hl4).trans hl5)
   have lz3 := (((hl2.trans hl3).trans hl4).trans hl5)
   have lz4 := ((hl3.trans hl4).trans hl5)
   refine cw_sub (E' := [(2, (.pointer (some p1))), (3, (.pointer (some p2))), (4, (Zw g1 0))]) ⟨Z, Z, Z, Zt⟩ (cw_drawL 9 7 5 23 16 [PV RBox (Add g1 M) a_a, PV (RArr 4 (RSlice RSpan)) (Add g1 M) x3, PV RBox (Add g1 M) a_b, PV (RArr 4 (RSlice RSpan)) (Add g1 M) x4, PT2 (PV (RArr 4 (RSlice RSpan)) (Add g1 M) x5.1) (PEq (.bool x5.2)), PT2 (PV (RArr 4 (RSlice RSpan)) (Add g1 M) x5.1) (PEq (.bool x5.2)), PV (RArr 4 (RSlice RSpan)) (Add g1 M) x5.1, PEq (.bool x5.2), PNew w5 61 #[(.slice none 0 0), (.slice none 0 0), (.slice none 0 0), (.slice none 0 0)]] (by kernel_rfl) Z (by kernel_rfl) Z Z Z Z Z Z Z ⟨PV.mono _ _ _, PV.mono _ _ _, PV.mono _ _ _, PV.mono _ _ _, (PT2.mono (PV.mono _ _ _) (Zq)), (PT2.mono (PV.mono _ _ _) (Zq)), PV.mono _ _ _, Zq, PNew.mono _ _ _, Zt⟩ (fun v w h => by obtain ⟨a, b, rfl, ha, hb⟩ := h; exact ⟨b, hb, fun w' => ow_extract Z Z Z ⟨Z, Z⟩⟩) ⟨?_, ?_, ?_, ?_, ?_, ?_, ?_, ?_, ?_, Zt⟩ ?_)
   ·
    intro w10 D hS1 hd1
    have hl10 := Le.no (Add g1 M) hS1
    exact Zs (E' := [(2, (.pointer (some p1)))]) ⟨Z, Zt⟩ (Zp Z (Zl (R := RBox) Z Z (ARep.mono (lz3.trans hl10) hp1) (Tryd.sizeOf25 _) (Tryd.isAgg25 _) fun v12 hv12 => ⟨BX.refl _ _, hv12⟩))
   ·
    intro w11 D hS2 hd2
    have hl11 := Le.no (Add g1 M) hS2
    have hC11 := hC5.no hS2
    have d1 : PV RBox (Add g1 M) a_a (D 0) w11 := dpA hd2 0 Z
    generalize hq1 : (D 0) = v13 at d1
    refine Zs (E' := [(17, v13)]) ⟨congrArg some hq1, Zt⟩ (Zp Z (Zk Z Z Tryd.call32 (w_impl_sidesOf (hG.mono (lz2.trans hl11)) hC11.old d1 hx3) fun v14 w12 hv14 => ?_))
    obtain ⟨hv14, hb10⟩ := hv14
    exact ⟨hb10, hv14⟩
   ·
    intro w13 D hS3 hd3
    have hl13 := Le.no (Add g1 M) hS3
    exact Zs (E' := [(3, (.pointer (some p2)))]) ⟨Z, Zt⟩ (Zp Z (Zl (R := RBox) Z Z (ARep.mono (lz4.trans hl13) hp2) (Tryd.sizeOf25 _) (Tryd.isAgg25 _) fun v15 hv15 => ⟨BX.refl _ _, hv15⟩))
   ·
    intro w14 D hS4 hd4
    have hl14 := Le.no (Add g1 M) hS4
    have hC14 := hC5.no hS4
    have d2 : PV RBox (Add g1 M) a_b (D 2) w14 := dpA hd4 2 Z
    generalize hq2 : (D 2) = v16 at d2
    refine Zs (E' := [(19, v16)]) ⟨congrArg some hq2, Zt⟩ (Zp Z (Zk Z Z Tryd.call32 (w_impl_sidesOf (hG.mono (lz2.trans hl14)) hC14.old d2 hx4) fun v17 w15 hv17 => ?_))
    obtain ⟨hv17, hb11⟩ := hv17
    exact ⟨hb11, hv17⟩
   ·
    intro w16 D hS5 hd5
    have hl16 := Le.no (Add g1 M) hS5
    have hC16 := hC5.no hS5
    have d4 : PV (RArr 4 (RSlice RSpan)) (Add g1 M) x3 (D 1) w16 := dpA hd5 1 Z
    have d5 : PV (RArr 4 (RSlice RSpan)) (Add g1 M) x4 (D 3) w16 := dpA hd5 3 Z
    generalize hq3 : (D 1) = v18 at d4
    generalize hq4 : (D 3) = v19 at d5
    refine Zs (E' := [(18, v18), (20, v19)]) ⟨congrArg some hq3, congrArg some hq4, Zt⟩ (Zp Z (Zk Z Z Tryd.call45 (w_impl_sides_meet (hG.mono (lz2.trans hl16)) hC16.old d4 d5 hx5) fun v20 w17 hv20 => ?_))
    obtain ⟨⟨v21, v22, rfl, hv21, hv22⟩, hb12⟩ := hv20
    obtain ⟨bb2, hbb2, rfl⟩ := vbool_ex hv22
    exact ⟨hb12, ⟨_, _, Z, hv21, (congrArg Value.bool hbb2)⟩⟩
   ·
    intro w18 D hS6 hd6
    have d7 : PT2 (PV (RArr 4 (RSlice RSpan)) (Add g1 M) x5.1) (PEq (.bool x5.2)) (D 4) w18 := dpA hd6 4 Z
    obtain ⟨v23, v24, e1, hd7, hd8⟩ := d7
    obtain ⟨bb3, hq5, rfl⟩ : ∃ b, b = x5.2 ∧ v24 = .bool b := ⟨_, rfl, hd8⟩
    exact Zs (E' := [(21, (.tuple #[v23, (.bool bb3)]))]) ⟨congrArg some e1, Zt⟩ (Zp Z (Zm Z Z ⟨BX.refl _ _, ⟨_, _, Z, hd7, (congrArg Value.bool hq5)⟩⟩))
   ·
    intro w19 D hS7 hd9
    have d8 : PT2 (PV (RArr 4 (RSlice RSpan)) (Add g1 M) x5.1) (PEq (.bool x5.2)) (D 5) w19 := dpA hd9 5 Z
    obtain ⟨v25, v26, e2, hd10, hd11⟩ := d8
    obtain ⟨bb4, hq6, rfl⟩ : ∃ b, b = x5.2 ∧ v26 = .bool b := ⟨_, rfl, hd11⟩
    exact Zs (E' := [(16, (.tuple #[v25, (.bool bb4)]))]) ⟨congrArg some e2, Zt⟩ (Zp Z (ow_extract Z Z Z ⟨BX.refl _ _, hd10⟩))
   ·
    intro w20 D hS8 hd12
    have d9 : PT2 (PV (RArr 4 (RSlice RSpan)) (Add g1 M) x5.1) (PEq (.bool x5.2)) (D 5) w20 := dpA hd12 5 Z
    obtain ⟨v27, v28, e3, hd13, hd14⟩ := d9
    obtain ⟨bb5, hq7, rfl⟩ : ∃ b, b = x5.2 ∧ v28 = .bool b := ⟨_, rfl, hd14⟩
    exact Zs (E' := [(16, (.tuple #[v27, (.bool bb5)]))]) ⟨congrArg some e3, Zt⟩ (Zp Z (ow_extract Z Z Z ⟨BX.refl _ _, (congrArg Value.bool hq7)⟩))
   ·
    intro w21 D hS9 hd15
    have hC21 := hC5.no hS9
    exact Zs (E' := []) trivial (Zp Z (ow_alloc Z (Tryd.zeroValue61 _) hC21 fun g3 w22 hg5 hg6 ho22 hb13 hl22 hC22 => ⟨hb13, ⟨_, Z, Nat.le_trans hS9.size hg5, ho22⟩⟩))
   ·
    intro w23 D hS10 hd16
    have d16 : PV (RArr 4 (RSlice RSpan)) (Add g1 M) x5.1 (D 6) w23 := dpA hd16 6 Z
    have d17 : PEq (.bool x5.2) (D 7) w23 := dpA hd16 7 Z
    have d18 : PNew w5 61 #[(.slice none 0 0), (.slice none 0 0), (.slice none 0 0), (.slice none 0 0)] (D 8) w23 := dpA hd16 8 Z
    obtain ⟨g4, hq8, hg7, ho25⟩ := d18
    have hg8 := Nat.le_trans hC5.bx.size hg7
    have hl23 := (Le.no (Add g1 M) hS10).add hg7
    have hC23 := (hC5.no hS10).add ho25.lt hg8
    have hn3 := Nat.ne_of_lt (Nat.lt_of_lt_of_le ho3.lt hg7)
    have ho26 := ho3.no hS10
    have hm6 : (Add g4 (Add g1 M)) g1 := .inr hm1
    have hm7 : (Add g4 (Add g1 M)) g4 := .inl Z
    have ho27 : OwnA (RArr 4 (RSlice RSpan)) w23 (Add g4 (Add g1 M)) g4 61 [([] : List Span), ([] : List Span), ([] : List Span), ([] : List Span)] := OwnA.of ho25 ⟨Z, ⟨_, _, Z, (vslice_nil (R := RSpan) (w := w23) (M := (Add g4 (Add g1 M)))).cells, _, _, Z, (vslice_nil (R := RSpan) (w := w23) (M := (Add g4 (Add g1 M)))).cells, _, _, Z, (vslice_nil (R := RSpan) (w := w23) (M := (Add g4 (Add g1 M)))).cells, _, _, Z, (vslice_nil (R := RSpan) (w := w23) (M := (Add g4 (Add g1 M)))).cells, Z⟩⟩
    have d19 : VRep (RArr 4 (RSlice RSpan)) w23 (Add g4 (Add g1 M)) x5.1 (D 6) := sides_free ho25 nil4 d16
    generalize hq9 : (D 6) = v29 at d19
    obtain ⟨bb6, hq10, hq11⟩ : ∃ b, b = x5.2 ∧ (D 7) = .bool b := ⟨_, rfl, d17⟩
    refine ls_sub (E' := [(5, (Zw g4 0)), (22, v29), (2, (.pointer (some p1))), (3, (.pointer (some p2))), (4, (Zw g1 0))]) ⟨congrArg some hq8, congrArg some hq9, Z, Z, Z, Zt⟩ ?_
    obtain ⟨cs1, h1, h2⟩ := ho27.own
    refine ls_op0 (by kernel_rfl) Z Z (ow_storeA (X := No) (R := (RArr 4 (RSlice RSpan))) Z Z Z Z h1 h2 (Tryd.sizeOf61 _) d19 hm7 (.inl hg8) hC23 fun w24 ho28 hb14 hl24 hC24 => ?_)
    have ho29 := ho26.go hb14 (fun e => hn3 e)
    refine ls_hang (by kernel_rfl) (lw_sub (E' := [(23, (.bool bb6)), (5, (Zw g4 0)), (22, v29), (2, (.pointer (some p1))), (3, (.pointer (some p2))), (4, (Zw g1 0))]) ⟨congrArg some hq11, Z, Z, Z, Z, Z, Zt⟩ (Zo Z Z Z (Za Z Z (Zn (Ze (cw_seq (cw_seq (Zr (Zo Z Z Z (Zm Z Z (Zo Z Z Z (ow_not Z Z (Zn (Ze ?_))))))))))))))
    replace h := Zc h
    rcases h with ⟨hc3, h⟩ | ⟨hc3, h⟩
    ·
     obtain rfl := hq10.trans hc3
     refine Zu Z (cw_skip (Ze (cw_seq (Zr (Zo Z Z Z (ow_loadA (R := (RArr 4 (RSlice RSpan))) Z Z Z ho28 (Tryd.sizeOf61 _) (Tryd.isAgg61 _) fun v30 hv30 => ?_))))))
     replace h := bind_some h
     obtain ⟨x6, hx6, h⟩ := h
     have lz6 := ((lz2.trans hl23).trans hl24)
     refine Zo Z Z Z (Zk Z Z Tryd.call46 (w_impl_sides_box (hG.mono lz6) hC24.old hv30 hx6) fun v31 w25 hv31 => ?_)
     obtain ⟨hv31, hb15⟩ := hv31
     have hC25 := hC24.no hb15
     have ho30 := ho29.no hb15
     obtain ⟨A1, c1, rfl, hw1⟩ := open_Box hv31
     refine lw_op0 Z Z (ow_store (X := No) (us := [(.slice A1 x6.Sides.length c1)]) (cs' := #[(.slice A1 x6.Sides.length c1)]) Z Z Z Z ho30 (Tryd.sizeOf25 _) Z Z Z Z hm6 (.inl hg2) Z hC25 fun w26 ho32 hb16 hl26 hC26 => Zn (Ze (Zy ?_)))
     have hw2 : VRep RBox w26 (Add g4 (Add g1 M)) ({ Sides := x6.Sides } : Box) (.agg #[(.slice A1 x6.Sides.length c1)]) := shut_Box (VRep.mono hl26 hw1)
     obtain rfl := sj h
     exact ew_ret (res1 Z (.cell Z (own_loadVarA ho32 (Tryd.isAgg25 _) (Tryd.sizeOf25 _) Z))) ⟨_, Z, (hw2.mono hC26.back), hC26.bx⟩
    ·
     obtain rfl := hq10.trans hc3
     refine cw_true Z (cw_seq (Zr (Zo Z Z Z (ow_build (v := .agg #[(.slice none 0 0)]) Z Z (by kernel_rfl) (lw_op0 Z Z (ow_store (X := No) (us := [(.slice none 0 0)]) (cs' := #[(.slice none 0 0)]) Z Z Z Z ho29 (Tryd.sizeOf25 _) Z Z Z Z hm6 (.inl hg2) Z hC24 fun w27 ho34 hb17 hl27 hC27 => Zn (Ze (Zy (Zh ?_)))))))))
     have hw4 : VRep RBox w27 (Add g4 (Add g1 M)) ({ Sides := ([] : List (List Span)) } : Box) (.agg #[(.slice none 0 0)]) := shut_Box (VRep.mono hl27 (vslice_nil (R := (RSlice RSpan)) (w := w24) (M := (Add g4 (Add g1 M)))))
     obtain rfl := sj h
     exact ew_ret (res1 Z (.cell Z (own_loadVarA ho34 (Tryd.isAgg25 _) (Tryd.sizeOf25 _) Z))) ⟨_, Z, (hw4.mono hC27.back), hC27.bx⟩
  ·
   subst hc2
   refine cw_true Z (cw_seq (Zr (Zo Z Z Z (ow_build (v := .agg #[(.slice none 0 0)]) Z Z (by kernel_rfl) (lw_op0 Z Z (ow_store (X := No) (us := [(.slice none 0 0)]) (cs' := #[(.slice none 0 0)]) Z Z Z Z ho3 (Tryd.sizeOf25 _) Z Z Z Z hm1 (.inl hg2) Z hC5 fun w28 ho36 hb18 hl28 hC28 => Zn (Ze (Zy (Zh ?_)))))))))
   have hw6 : VRep RBox w28 (Add g1 M) ({ Sides := ([] : List (List Span)) } : Box) (.agg #[(.slice none 0 0)]) := shut_Box (VRep.mono hl28 (vslice_nil (R := (RSlice RSpan)) (w := w5) (M := (Add g1 M))))
   obtain rfl := sj h
   exact ew_ret (res1 Z (.cell Z (own_loadVarA ho36 (Tryd.isAgg25 _) (Tryd.sizeOf25 _) Z))) ⟨_, Z, (hw6.mono hC28.back), hC28.bx⟩
 ·
  subst hc1
  refine lw_off Z Z Z Z Z Z (lw_off Z Z Z Z Z Z (lw_off Z Z Z Z Z Z (Zo Z Z Z (ow_pickT Z Z Z (Zn (Ze (cw_true Z (cw_seq (Zr (Zo Z Z Z (ow_build (v := .agg #[(.slice none 0 0)]) Z Z (by kernel_rfl) (lw_op0 Z Z (ow_store (X := No) (us := [(.slice none 0 0)]) (cs' := #[(.slice none 0 0)]) Z Z Z Z ho2 (Tryd.sizeOf25 _) Z Z Z Z hm1 (.inl hg2) Z hC4 fun w29 ho37 hb19 hl29 hC29 => Zn (Ze (Zy (Zh ?_))))))))))))))))
  have hw8 : VRep RBox w29 (Add g1 M) ({ Sides := ([] : List (List Span)) } : Box) (.agg #[(.slice none 0 0)]) := shut_Box (VRep.mono hl29 (vslice_nil (R := (RSlice RSpan)) (w := w4) (M := (Add g1 M))))
  obtain rfl := sj h
  exact ew_ret (res1 Z (.cell Z (own_loadVarA ho37 (Tryd.isAgg25 _) (Tryd.sizeOf25 _) Z))) ⟨_, Z, (hw8.mono hC29.back), hC29.bx⟩

theorem w_spec_l20Rd_pick {w : World} {M : Nat → Prop} (_hG : ARep (RArr 4 RShape) w M shapes ⟨0, 0, none⟩) (hO : ∀ b, M b → b < w.heap.size) {g : Nat} {Ax : Option Addr} {cx : Nat} {a_xs : List Int} {a_pos : Int} (hxs : VRep (RSlice RU8) w M a_xs (.slice Ax a_xs.length cx)) (hown : Own w g 97 #[.slice Ax a_xs.length cx, .int .i64 a_pos]) (hgM : M g) {a_n : Int} {r : Int × Int} (h : F.spec_l20Rd_pick a_xs a_pos a_n = some r) :
  Calls Tryd.prog 63 [(.pointer (some ⟨g, 0, none⟩)), (.int .i64 a_n)].toArray w fun e w' => ∃ v, e = .returned v ∧ (VRep RInt w' M r.1 v ∧ Own w' g 97 #[.slice Ax a_xs.length cx, .int .i64 r.2]) ∧ BX (One g) w w' := by
 have hX : ∀ b, (One g) b → M b := fun b e => e ▸ hgM
 have hC : Cx (One g) w M w M := Cx.start hO hX
 clear _hG
 refine walk (N := 99) Tryd.func63 Z Tryd.ntmps63 Z (cw_seq (Zr (Zo Z Z Z (Za Z Z (Zn (Ze (cw_seq (Zr (Zo Z Z Z (Zm Z Z (Zo Z Z Z (Zm Z Z (Zo Z Z Z (ow_nilCheck Z Z (Zo Z Z Z (Zf Z Z Tryd.underlying97 Z (Tryd.sizeOf3 _) (Zo Z Z Z (ow_loadOwn1 Z Z Z hown (Tryd.isAgg3 _) Z (Zo Z Z Z (ow_add Z Z Z (Zo Z Z Z (ow_nilCheck Z Z (Zo Z Z Z (Zf Z Z Tryd.underlying97 Z (Tryd.sizeOf3 _) (lw_op0 Z Z (ow_store (X := (One g)) (us := [(Zv (W (a_pos + 1)))]) (cs' := #[(.slice Ax a_xs.length cx), (Zv (W (a_pos + 1)))]) Z Z Z Z hown (Tryd.sizeOf3 _) Z Z Z Z hgM (.inr Z) Z hC fun w1 ho1 hb1 hl1 hC1 => Zn (Ze (cw_seq (cw_seq (Zr (Zo Z Z Z (Zm Z Z (Zo Z Z Z (ow_lss Z Z Z fun bb1 hbb1 => Zo Z Z Z (Zm Z Z ?_)))))))))))))))))))))))))))))))))))
 replace h := Zc h
 rcases h with ⟨hc1, h⟩ | ⟨hc1, h⟩
 ·
  obtain rfl := hbb1.trans hc1
  refine lw_off Z Z Z Z Z Z (lw_off Z Z Z Z Z Z (lw_off Z Z Z Z Z Z (lw_off Z Z Z Z Z Z (lw_off Z Z Z Z Z Z (lw_off Z Z Z Z Z Z (Zo Z Z Z (ow_pickT Z Z Z (Zn (Ze (cw_true Z (cw_seq (Zr (Zo Z Z Z (Za Z Z (Zn (Ze (Zy (Zh ?_))))))))))))))))))
  obtain rfl := sj h
  exact ew_ret (res1 Z (.tmp Z)) ⟨_, Z, ⟨((vint _)), ho1⟩, hC1.bx⟩
 ·
  obtain rfl := hbb1.trans hc1
  refine lw_on Z Z Z Z Z Z (Zm Z Z (lw_on Z Z Z Z Z Z (ow_nilCheck Z Z (lw_on Z Z Z Z Z Z (Zf Z Z Tryd.underlying97 Z (Tryd.sizeOf22 _) (lw_on Z Z Z Z Z Z (ow_loadOwn1 Z Z Z ho1 (Tryd.isAgg22 _) Z (lw_on Z Z Z Z Z Z (ow_len Z Z (VRep.mono hl1 hxs) Tryd.underlying22 Z (lw_on Z Z Z Z Z Z (ow_eqlI Z Z Z fun bb2 hbb2 => Zo Z Z Z (ow_pickF Z Z Z (Zn (Ze ?_))))))))))))))
  replace h := Zc h
  rcases h with ⟨hc2, h⟩ | ⟨hc2, h⟩
  ·
   obtain rfl := hbb2.trans hc2
   refine cw_true Z (cw_seq (Zr (Zo Z Z Z (Za Z Z (Zn (Ze (Zy (Zh ?_))))))))
   obtain rfl := sj h
   exact ew_ret (res1 Z (.tmp Z)) ⟨_, Z, ⟨((vint _)), ho1⟩, hC1.bx⟩
  ·
   obtain rfl := hbb2.trans hc2
   refine Zu Z (cw_skip (Ze (cw_seq (Zr (Zo Z Z Z (Zm Z Z (Zo Z Z Z (ow_nilCheck Z Z (Zo Z Z Z (Zf Z Z Tryd.underlying97 Z (Tryd.sizeOf3 _) (Zo Z Z Z (ow_loadOwn1 Z Z Z ho1 (Tryd.isAgg3 _) Z (Zo Z Z Z (ow_sub Z Z Z (Zo Z Z Z (Za Z Z (Zn (Ze (cw_seq (cw_seq (Zr (Zo Z Z Z (Zm Z Z (Zo Z Z Z (Zm Z Z (Zo Z Z Z (ow_nilCheck Z Z (Zo Z Z Z (Zf Z Z Tryd.underlying97 Z (Tryd.sizeOf22 _) (Zo Z Z Z (ow_loadOwn1 Z Z Z ho1 (Tryd.isAgg22 _) Z (Zo Z Z Z (ow_len Z Z (VRep.mono hl1 hxs) Tryd.underlying22 Z (Zo Z Z Z (ow_lss Z Z Z fun bb3 hbb3 => Zn (Ze ?_))))))))))))))))))))))))))))))))))))
   replace h := Zc h
   rcases h with ⟨hc3, h⟩ | ⟨hc3, h⟩
   ·
    obtain rfl := hbb3.trans hc3
    refine cw_true Z (cw_seq (Zr (Zo Z Z Z (Zm Z Z (Zo Z Z Z (ow_nilCheck Z Z (Zo Z Z Z (Zf Z Z Tryd.underlying97 Z (Tryd.sizeOf22 _) (Zo Z Z Z (ow_loadOwn1 Z Z Z ho1 (Tryd.isAgg22 _) Z (Zo Z Z Z (Zm Z Z ?_))))))))))))
    replace h := bind_some h
    obtain ⟨x1, hx1, h⟩ := h
    refine Zo Z Z Z (Zx (R := RU8) Z Z Z (VRep.mono hl1 hxs) Tryd.underlying22 (Tryd.sizeOf5 _) hx1 fun p1 hp1 => Zo Z Z Z (Zl (R := RU8) Z Z hp1 (Tryd.sizeOf5 _) (Tryd.isAgg5 _) fun v1 hv1 => ?_))
    obtain rfl := vu8_eq hv1
    refine Zo Z Z Z (ow_u8int Z Z (by kernel_rfl) (Zo Z Z Z (Zm Z Z ?_)))
    replace h := bind_some h
    obtain ⟨u1, hu1, h⟩ := h
    refine Zo Z Z Z (ow_rem Z Z Z (nzF_some hu1) (Zo Z Z Z (Za Z Z (Zn (Ze (Zy (Zh ?_)))))))
    obtain rfl := sj h
    exact ew_ret (res1 Z (.tmp Z)) ⟨_, Z, ⟨((vint _)), ho1⟩, hC1.bx⟩
   ·
    obtain rfl := hbb3.trans hc3
    refine Zu Z (cw_skip (Ze (cw_seq ?_)))
    replace h := bind_some h
    obtain ⟨u2, hu2, h⟩ := h
    replace h := bind_some h
    obtain ⟨x2, hx2, h⟩ := h
    replace h := bind_some h
    obtain ⟨x3, hx3, h⟩ := h
    refine cw_sub (E' := [(0, (Zw g 0)), (1, (Zv a_n)), (4, (Zv 0)), (5, (Zv (W ((W (a_pos + 1)) - 1))))]) ⟨Z, Z, Z, Z, Zt⟩ (cw_drawQ 44 [PEq (Zw g 0), PEq (Zw g 0), PEq (Zw g 0), PV (RSlice RU8) M a_xs, PEq (Zv (W ((W (a_pos + 1)) - 1))), PEq (Zw g 0), PEq (Zw g 0), PEq (Zw g 0), PV (RSlice RU8) M a_xs, PEq (Zv (a_xs.length : Int)), PEq (Zv (((W ((W (a_pos + 1)) - 1))).tmod (a_xs.length : Int))), PA RU8 M x2, PEq (.int .u8 x2), PEq (Zv (W x2)), PEq (Zv (W ((W x2) * 131))), PEq (Zw g 0), PEq (Zw g 0), PEq (Zw g 0), PV (RSlice RU8) M a_xs, PEq (Zv (W ((W (a_pos + 1)) - 1))), PEq (Zv (W ((W ((W (a_pos + 1)) - 1)) * 7))), PEq (Zv (W ((W ((W ((W (a_pos + 1)) - 1)) * 7)) + 3))), PEq (Zw g 0), PEq (Zw g 0), PEq (Zw g 0), PV (RSlice RU8) M a_xs, PEq (Zv (a_xs.length : Int)), PEq (Zv (((W ((W ((W ((W (a_pos + 1)) - 1)) * 7)) + 3))).tmod (a_xs.length : Int))), PA RU8 M x3, PEq (.int .u8 x3), PEq (Zv (W x3)), PEq (Zv (W ((W x3) * 1117))), PEq (Zv (W ((W ((W x2) * 131)) + (W ((W x3) * 1117))))), PEq (Zv (W ((W (a_pos + 1)) - 1))), PEq (Zv (W ((W ((W (a_pos + 1)) - 1)) * 29))), PEq (Zv (W ((W ((W ((W x2) * 131)) + (W ((W x3) * 1117)))) + (W ((W ((W (a_pos + 1)) - 1)) * 29))))), PEq (Zv (W ((W (a_pos + 1)) - 1))), PEq (Zw g 0), PEq (Zw g 0), PEq (Zw g 0), PV (RSlice RU8) M a_xs, PEq (Zv (a_xs.length : Int)), PEq (Zv (W (((W ((W (a_pos + 1)) - 1))).tdiv (a_xs.length : Int)))), PEq (Zv (W ((W (((W ((W (a_pos + 1)) - 1))).tdiv (a_xs.length : Int))) * 53)))] (by kernel_rfl) Z (by kernel_rfl) ⟨Zq, Zq, Zq, PV.mono _ _ _, Zq, Zq, Zq, Zq, PV.mono _ _ _, Zq, Zq, PA.mono _ _ _, Zq, Zq, Zq, Zq, Zq, Zq, PV.mono _ _ _, Zq, Zq, Zq, Zq, Zq, Zq, PV.mono _ _ _, Zq, Zq, PA.mono _ _ _, Zq, Zq, Zq, Zq, Zq, Zq, Zq, Zq, Zq, Zq, Zq, PV.mono _ _ _, Zq, Zq, Zq, Zt⟩ ⟨?_, ?_, ?_, ?_, ?_, ?_, ?_, ?_, ?_, ?_, ?_, ?_, ?_, ?_, ?_, ?_, ?_, ?_, ?_, ?_, ?_, ?_, ?_, ?_, ?_, ?_, ?_, ?_, ?_, ?_, ?_, ?_, ?_, ?_, ?_, ?_, ?_, ?_, ?_, ?_, ?_, ?_, ?_, ?_, Zt⟩ ?_)
    · exact fun w2 D hS1 hd1 => Zs (E' := [(0, (Zw g 0))]) ⟨Z, Zt⟩ (Zp Z (Zm Z Z Zb))
    · exact fun w3 D hS2 hd2 => Zs (E' := [(47, (Zw g 0))]) ⟨dpE hd2 0 Z Z, Zt⟩ (Zp Z (ow_nilCheck Z Z Zb))
    · exact fun w4 D hS3 hd3 => Zs (E' := [(48, (Zw g 0))]) ⟨dpE hd3 1 Z Z, Zt⟩ (Zp Z (Zf Z Z Tryd.underlying97 Z (Tryd.sizeOf22 _) Zb))
    ·
     intro w5 D hS4 hd4
     have hl5 := Le.no M hS4
     have ho5 := ho1.no hS4
     exact Zs (E' := [(49, (Zw g 0))]) ⟨dpE hd4 2 Z Z, Zt⟩ (Zp Z (ow_loadOwn1 Z Z Z ho5 (Tryd.isAgg22 _) Z ⟨BX.refl _ _, (VRep.mono (hl1.trans hl5) hxs)⟩))
    · exact fun w6 D hS5 hd5 => Zs (E' := [(5, (Zv (W ((W (a_pos + 1)) - 1))))]) ⟨Z, Zt⟩ (Zp Z (Zm Z Z Zb))
    · exact fun w7 D hS6 hd6 => Zs (E' := [(0, (Zw g 0))]) ⟨Z, Zt⟩ (Zp Z (Zm Z Z Zb))
    · exact fun w8 D hS7 hd7 => Zs (E' := [(52, (Zw g 0))]) ⟨dpE hd7 5 Z Z, Zt⟩ (Zp Z (ow_nilCheck Z Z Zb))
    · exact fun w9 D hS8 hd8 => Zs (E' := [(53, (Zw g 0))]) ⟨dpE hd8 6 Z Z, Zt⟩ (Zp Z (Zf Z Z Tryd.underlying97 Z (Tryd.sizeOf22 _) Zb))
    ·
     intro w10 D hS9 hd9
     have hl10 := Le.no M hS9
     have ho10 := ho1.no hS9
     exact Zs (E' := [(54, (Zw g 0))]) ⟨dpE hd9 7 Z Z, Zt⟩ (Zp Z (ow_loadOwn1 Z Z Z ho10 (Tryd.isAgg22 _) Z ⟨BX.refl _ _, (VRep.mono (hl1.trans hl10) hxs)⟩))
    ·
     intro w11 D hS10 hd10
     have d7 : PV (RSlice RU8) M a_xs (D 8) w11 := dpA hd10 8 Z
     generalize hq1 : (D 8) = v4 at d7
     exact Zs (E' := [(55, v4)]) ⟨congrArg some hq1, Zt⟩ (Zp Z (ow_len Z Z d7 Tryd.underlying22 Z Zb))
    · exact fun w12 D hS11 hd11 => Zs (E' := [(51, (Zv (W ((W (a_pos + 1)) - 1)))), (56, (Zv (a_xs.length : Int)))]) ⟨dpE hd11 4 Z Z, dpE hd11 9 Z Z, Zt⟩ (Zp Z (ow_rem Z Z Z (nzF_some hu2) Zb))
    ·
     intro w13 D hS12 hd12
     have d10 : PV (RSlice RU8) M a_xs (D 3) w13 := dpA hd12 3 Z
     generalize hq2 : (D 3) = v5 at d10
     exact Zs (E' := [(50, v5), (57, (Zv (((W ((W (a_pos + 1)) - 1))).tmod (a_xs.length : Int))))]) ⟨congrArg some hq2, dpE hd12 10 Z Z, Zt⟩ (Zp Z (Zx (R := RU8) Z Z Z d10 Tryd.underlying22 (Tryd.sizeOf5 _) hx2 fun p4 hp4 => ⟨BX.refl _ _, ⟨_, Z, hp4⟩⟩))
    ·
     intro w14 D hS13 hd13
     have d12 : PA RU8 M x2 (D 11) w14 := dpA hd13 11 Z
     obtain ⟨p5, e1, ha1⟩ := d12
     refine Zs (E' := [(58, (.pointer (some p5)))]) ⟨congrArg some e1, Zt⟩ (Zp Z (Zl (R := RU8) Z Z ha1 (Tryd.sizeOf5 _) (Tryd.isAgg5 _) fun v6 hv6 => ?_))
     obtain rfl := vu8_eq hv6
     exact Zb
    · exact fun w15 D hS14 hd14 => Zs (E' := [(59, (.int .u8 x2))]) ⟨dpE hd14 12 Z Z, Zt⟩ (Zp Z (ow_u8int Z Z (by kernel_rfl) Zb))
    · exact fun w16 D hS15 hd15 => Zs (E' := [(60, (Zv (W x2)))]) ⟨dpE hd15 13 Z Z, Zt⟩ (Zp Z (ow_mul Z Z Z Zb))
    · exact fun w17 D hS16 hd16 => Zs (E' := [(0, (Zw g 0))]) ⟨Z, Zt⟩ (Zp Z (Zm Z Z Zb))
    · exact fun w18 D hS17 hd17 => Zs (E' := [(62, (Zw g 0))]) ⟨dpE hd17 15 Z Z, Zt⟩ (Zp Z (ow_nilCheck Z Z Zb))
    · exact fun w19 D hS18 hd18 => Zs (E' := [(63, (Zw g 0))]) ⟨dpE hd18 16 Z Z, Zt⟩ (Zp Z (Zf Z Z Tryd.underlying97 Z (Tryd.sizeOf22 _) Zb))
    ·
     intro w20 D hS19 hd19
     have hl20 := Le.no M hS19
     have ho20 := ho1.no hS19
     exact Zs (E' := [(64, (Zw g 0))]) ⟨dpE hd19 17 Z Z, Zt⟩ (Zp Z (ow_loadOwn1 Z Z Z ho20 (Tryd.isAgg22 _) Z ⟨BX.refl _ _, (VRep.mono (hl1.trans hl20) hxs)⟩))
    · exact fun w21 D hS20 hd20 => Zs (E' := [(5, (Zv (W ((W (a_pos + 1)) - 1))))]) ⟨Z, Zt⟩ (Zp Z (Zm Z Z Zb))
    · exact fun w22 D hS21 hd21 => Zs (E' := [(66, (Zv (W ((W (a_pos + 1)) - 1))))]) ⟨dpE hd21 19 Z Z, Zt⟩ (Zp Z (ow_mul Z Z Z Zb))
    · exact fun w23 D hS22 hd22 => Zs (E' := [(67, (Zv (W ((W ((W (a_pos + 1)) - 1)) * 7))))]) ⟨dpE hd22 20 Z Z, Zt⟩ (Zp Z (ow_add Z Z Z Zb))
    · exact fun w24 D hS23 hd23 => Zs (E' := [(0, (Zw g 0))]) ⟨Z, Zt⟩ (Zp Z (Zm Z Z Zb))
    · exact fun w25 D hS24 hd24 => Zs (E' := [(69, (Zw g 0))]) ⟨dpE hd24 22 Z Z, Zt⟩ (Zp Z (ow_nilCheck Z Z Zb))
    · exact fun w26 D hS25 hd25 => Zs (E' := [(70, (Zw g 0))]) ⟨dpE hd25 23 Z Z, Zt⟩ (Zp Z (Zf Z Z Tryd.underlying97 Z (Tryd.sizeOf22 _) Zb))
    ·
     intro w27 D hS26 hd26
     have hl27 := Le.no M hS26
     have ho27 := ho1.no hS26
     exact Zs (E' := [(71, (Zw g 0))]) ⟨dpE hd26 24 Z Z, Zt⟩ (Zp Z (ow_loadOwn1 Z Z Z ho27 (Tryd.isAgg22 _) Z ⟨BX.refl _ _, (VRep.mono (hl1.trans hl27) hxs)⟩))
    ·
     intro w28 D hS27 hd27
     have d23 : PV (RSlice RU8) M a_xs (D 25) w28 := dpA hd27 25 Z
     generalize hq3 : (D 25) = v7 at d23
     exact Zs (E' := [(72, v7)]) ⟨congrArg some hq3, Zt⟩ (Zp Z (ow_len Z Z d23 Tryd.underlying22 Z Zb))
    · exact fun w29 D hS28 hd28 => Zs (E' := [(68, (Zv (W ((W ((W ((W (a_pos + 1)) - 1)) * 7)) + 3)))), (73, (Zv (a_xs.length : Int)))]) ⟨dpE hd28 21 Z Z, dpE hd28 26 Z Z, Zt⟩ (Zp Z (ow_rem Z Z Z (nzF_some hu2) Zb))
    ·
     intro w30 D hS29 hd29
     have d26 : PV (RSlice RU8) M a_xs (D 18) w30 := dpA hd29 18 Z
     generalize hq4 : (D 18) = v8 at d26
     exact Zs (E' := [(65, v8), (74, (Zv (((W ((W ((W ((W (a_pos + 1)) - 1)) * 7)) + 3))).tmod (a_xs.length : Int))))]) ⟨congrArg some hq4, dpE hd29 27 Z Z, Zt⟩ (Zp Z (Zx (R := RU8) Z Z Z d26 Tryd.underlying22 (Tryd.sizeOf5 _) hx3 fun p6 hp6 => ⟨BX.refl _ _, ⟨_, Z, hp6⟩⟩))
    ·
     intro w31 D hS30 hd30
     have d28 : PA RU8 M x3 (D 28) w31 := dpA hd30 28 Z
     obtain ⟨p7, e2, ha2⟩ := d28
     refine Zs (E' := [(75, (.pointer (some p7)))]) ⟨congrArg some e2, Zt⟩ (Zp Z (Zl (R := RU8) Z Z ha2 (Tryd.sizeOf5 _) (Tryd.isAgg5 _) fun v9 hv9 => ?_))
     obtain rfl := vu8_eq hv9
     exact Zb
    · exact fun w32 D hS31 hd31 => Zs (E' := [(76, (.int .u8 x3))]) ⟨dpE hd31 29 Z Z, Zt⟩ (Zp Z (ow_u8int Z Z (by kernel_rfl) Zb))
    · exact fun w33 D hS32 hd32 => Zs (E' := [(77, (Zv (W x3)))]) ⟨dpE hd32 30 Z Z, Zt⟩ (Zp Z (ow_mul Z Z Z Zb))
    · exact fun w34 D hS33 hd33 => Zs (E' := [(61, (Zv (W ((W x2) * 131)))), (78, (Zv (W ((W x3) * 1117))))]) ⟨dpE hd33 14 Z Z, dpE hd33 31 Z Z, Zt⟩ (Zp Z (ow_add Z Z Z Zb))
    · exact fun w35 D hS34 hd34 => Zs (E' := [(5, (Zv (W ((W (a_pos + 1)) - 1))))]) ⟨Z, Zt⟩ (Zp Z (Zm Z Z Zb))
    · exact fun w36 D hS35 hd35 => Zs (E' := [(80, (Zv (W ((W (a_pos + 1)) - 1))))]) ⟨dpE hd35 33 Z Z, Zt⟩ (Zp Z (ow_mul Z Z Z Zb))
    · exact fun w37 D hS36 hd36 => Zs (E' := [(79, (Zv (W ((W ((W x2) * 131)) + (W ((W x3) * 1117)))))), (81, (Zv (W ((W ((W (a_pos + 1)) - 1)) * 29))))]) ⟨dpE hd36 32 Z Z, dpE hd36 34 Z Z, Zt⟩ (Zp Z (ow_add Z Z Z Zb))
    · exact fun w38 D hS37 hd37 => Zs (E' := [(5, (Zv (W ((W (a_pos + 1)) - 1))))]) ⟨Z, Zt⟩ (Zp Z (Zm Z Z Zb))
    · exact fun w39 D hS38 hd38 => Zs (E' := [(0, (Zw g 0))]) ⟨Z, Zt⟩ (Zp Z (Zm Z Z Zb))
    · exact fun w40 D hS39 hd39 => Zs (E' := [(84, (Zw g 0))]) ⟨dpE hd39 37 Z Z, Zt⟩ (Zp Z (ow_nilCheck Z Z Zb))
    · exact fun w41 D hS40 hd40 => Zs (E' := [(85, (Zw g 0))]) ⟨dpE hd40 38 Z Z, Zt⟩ (Zp Z (Zf Z Z Tryd.underlying97 Z (Tryd.sizeOf22 _) Zb))
    ·
     intro w42 D hS41 hd41
     have hl42 := Le.no M hS41
     have ho42 := ho1.no hS41
     exact Zs (E' := [(86, (Zw g 0))]) ⟨dpE hd41 39 Z Z, Zt⟩ (Zp Z (ow_loadOwn1 Z Z Z ho42 (Tryd.isAgg22 _) Z ⟨BX.refl _ _, (VRep.mono (hl1.trans hl42) hxs)⟩))
    ·
     intro w43 D hS42 hd42
     have d39 : PV (RSlice RU8) M a_xs (D 40) w43 := dpA hd42 40 Z
     generalize hq5 : (D 40) = v10 at d39
     exact Zs (E' := [(87, v10)]) ⟨congrArg some hq5, Zt⟩ (Zp Z (ow_len Z Z d39 Tryd.underlying22 Z Zb))
    · exact fun w44 D hS43 hd43 => Zs (E' := [(83, (Zv (W ((W (a_pos + 1)) - 1)))), (88, (Zv (a_xs.length : Int)))]) ⟨dpE hd43 36 Z Z, dpE hd43 41 Z Z, Zt⟩ (Zp Z (ow_quo Z Z Z (nzF_some hu2) Zb))
    · exact fun w45 D hS44 hd44 => Zs (E' := [(89, (Zv (W (((W ((W (a_pos + 1)) - 1))).tdiv (a_xs.length : Int)))))]) ⟨dpE hd44 42 Z Z, Zt⟩ (Zp Z (ow_mul Z Z Z Zb))
    ·
     intro w46 D hS45 hd45
     have hC46 := hC1.no hS45
     have ho46 := ho1.no hS45
     refine lw_sub (E' := [(82, (Zv (W ((W ((W ((W x2) * 131)) + (W ((W x3) * 1117)))) + (W ((W ((W (a_pos + 1)) - 1)) * 29)))))), (90, (Zv (W ((W (((W ((W (a_pos + 1)) - 1))).tdiv (a_xs.length : Int))) * 53)))), (0, (Zw g 0)), (1, (Zv a_n)), (4, (Zv 0)), (5, (Zv (W ((W (a_pos + 1)) - 1))))]) ⟨dpE hd45 35 Z Z, dpE hd45 43 Z Z, Z, Z, Z, Z, Zt⟩ (Zo Z Z Z (ow_add Z Z Z (Zo Z Z Z (Za Z Z (Zn (Ze (cw_seq (Zr (Zo Z Z Z (Zm Z Z (Zo Z Z Z (Zm Z Z (Zo Z Z Z (ow_quo Z Z Z (by decide) (Zo Z Z Z (ow_xor Z Z Z (Zo Z Z Z (Za Z Z (Zn (Ze (cw_seq (Zr (Zo Z Z Z (Zm Z Z (Zo Z Z Z (Zm Z Z ?_))))))))))))))))))))))))))
     replace h := bind_some h
     obtain ⟨u3, hu3, h⟩ := h
     refine Zo Z Z Z (ow_rem Z Z Z (nzF_some hu3) (Zo Z Z Z (Za Z Z (Zn (Ze (Zy ?_))))))
     obtain rfl := sj h
     exact ew_ret (res1 Z (.tmp Z)) ⟨_, Z, ⟨((vint _)), ho46⟩, hC46.bx⟩

theorem w_spec_l20Rd_odd {w : World} {M : Nat → Prop} (hG : ARep (RArr 4 RShape) w M shapes ⟨0, 0, none⟩) (hO : ∀ b, M b → b < w.heap.size) {g : Nat} {Ax : Option Addr} {cx : Nat} {a_xs : List Int} {a_pos : Int} (hxs : VRep (RSlice RU8) w M a_xs (.slice Ax a_xs.length cx)) (hown : Own w g 97 #[.slice Ax a_xs.length cx, .int .i64 a_pos]) (hgM : M g) {a_n : Int} {r : Bool × Int} (h : F.spec_l20Rd_odd a_xs a_pos a_n = some r) :
  Calls Tryd.prog 83 [(.pointer (some ⟨g, 0, none⟩)), (.int .i64 a_n)].toArray w fun e w' => ∃ v, e = .returned v ∧ (VRep RBool w' M r.1 v ∧ Own w' g 97 #[.slice Ax a_xs.length cx, .int .i64 r.2]) ∧ BX (One g) w w' := by
 have hX : ∀ b, (One g) b → M b := fun b e => e ▸ hgM
 have hC : Cx (One g) w M w M := Cx.start hO hX
 refine walk (N := 15) Tryd.func83 Z Tryd.ntmps83 Z (cw_seq (Zr (Zo Z Z Z (Za Z Z (Zn (Ze (cw_seq (Zr (Zo Z Z Z (Zm Z Z (Zo Z Z Z (ow_gtr Z Z Z fun bb1 hbb1 => Zo Z Z Z (Zm Z Z ?_)))))))))))))
 replace h := Zc h
 rcases h with ⟨hc1, h⟩ | ⟨hc1, h⟩
 ·
  obtain rfl := hbb1.trans hc1
  refine lw_on Z Z Z Z Z Z (Zm Z Z (lw_on Z Z Z Z Z Z (Zm Z Z ?_)))
  replace h := bind_some h
  obtain ⟨x1, hx1, h⟩ := h
  refine lw_on Z Z Z Z Z Z (Zk Z Z Tryd.call63 (w_spec_l20Rd_pick hG hC.old hxs hown hgM hx1) fun v1 w1 hv1 => ?_)
  obtain ⟨⟨hv1, ho1⟩, hb1⟩ := hv1
  have hC1 := hC.go hb1 (fun b e => Or.inr e)
  obtain rfl := Zi hv1
  refine lw_on Z Z Z Z Z Z (Zm Z Z (lw_on Z Z Z Z Z Z (ow_sub Z Z Z (lw_on Z Z Z Z Z Z (ow_eqlI Z Z Z fun bb2 hbb2 => Zo Z Z Z (ow_pickT Z Z Z (Zo Z Z Z (Za Z Z (Zn (Ze (Zy ?_)))))))))))
  obtain rfl := sj h
  exact ew_ret (res1 Z (.tmp Z)) ⟨_, Z, ⟨((vbool_of hbb2)), ho1⟩, hC1.bx⟩
 ·
  obtain rfl := hbb1.trans hc1
  refine lw_off Z Z Z Z Z Z (lw_off Z Z Z Z Z Z (lw_off Z Z Z Z Z Z (lw_off Z Z Z Z Z Z (lw_off Z Z Z Z Z Z (lw_off Z Z Z Z Z Z (Zo Z Z Z (ow_pickF Z Z Z (Zo Z Z Z (Za Z Z (Zn (Ze (Zy ?_))))))))))))
  obtain rfl := sj h
  exact ew_ret (res1 Z (.tmp Z)) ⟨_, Z, ⟨((vbool _)), hown⟩, hC.bx⟩

theorem wo_spec_l1Add {w : World} {M : Nat → Prop} (_hG : ARep (RArr 4 RShape) w M shapes ⟨0, 0, none⟩) (hO : ∀ b, M b → b < w.heap.size) {v0p : Value} {a_list : List Span} (h0 : VRep (RSlice RSpan) w M a_list v0p) {v1p : Value} {a_s : Span} (h1 : VRep RSpan w M a_s v1p) {r : (List Span)} (h : F.spec_l1Add a_list a_s = some r) :
  Calls Tryd.prog 107 [v0p, v1p].toArray w fun e w' => ∃ v, e = .returned v ∧ (∃ M', OwnRow RSpan w.heap.size 69 w' M' r v ∧ Cx No w M w' M') ∧ BX No w w' := by
 obtain ⟨i69, hi69, hz69, hs69, hy69⟩ := info69
 have hC : Cx No w M w M := Cx.start hO (fun _ e => e.elim)
 clear _hG
 refine walk (N := 66) Tryd.func107 Z Tryd.ntmps107 Z (cw_seq (Zr ?_))
 obtain rfl := open_Span h1
 refine Zo Z Z Z (ow_boxOwn Z Z hC fun g1 w1 hg1 hg2 ho1 hb1 hl1 hC1 => ?_)
 have hm1 : (Add g1 M) g1 := .inl Z
 refine Zo Z Z Z (Za Z Z (Zn (Ze (cw_seq (Zr (Zo Z Z Z (ow_buildSlice0 (R := RSpan) (e := 69) Z (by kernel_rfl) hC1 fun p1 w2 M1 hr1 hb2 hl2 hC2 hM1 hat1 => ?_)))))))
 have hn1 : (Value.ownBlock (.slice (some p1) 0 0)) ≠ some g1 := nb_new (congrArg some hat1) ho1
 have ho2 := ho1.no hb2
 have hm2 := hM1 _ hm1
 refine Zo Z Z Z (Za Z Z (Zn (Ze (cw_seq (Zr (Zo Z Z Z (Za Z Z (Zn (Ze (cw_seq (cw_seq (Zr (Zo Z Z Z (Za Z Z (Zn (Ze ?_))))))))))))))))
 replace h := bind_some h
 obtain ⟨lr1, hlr1, h⟩ := h
 refine cw_for hlr1 (fun s a w' => ∃ (M' : Nat → Prop) (v0c : Value), Fits 66 [(0, v0p), (3, (Zw g1 0)), (5, v0c), (6, (.bool s.2.1)), (7, (Zv s.2.2.1))] a ∧ Le w2 M1 w' M' ∧ Cx No w M w' M' ∧ OwnRow RSpan w.heap.size 69 w' M' s.1 v0c ∧ Own w' g1 69 #[(Zv s.2.2.2.1), (Zv s.2.2.2.2)] ∧ M' g1 ∧ (Value.ownBlock v0c) ≠ some g1) ?_ ?_ ?_
 · exact fun a ha => ⟨M1, (.slice (some p1) 0 0), ha.sub ⟨Z, Z, Z, Z, Z, Zt⟩, Le.refl _ _, hC2, hr1, ho2, hm2, hn1⟩
 ·
  rintro ⟨y1, y2, k1, k2, k3⟩ a w3 sr1 ⟨M2, v1, hF1, hl3, hC3, hw1, ho3, hm3, hn2⟩ hb3 hR1
  refine cw_at (E := [(0, v0p), (3, (Zw g1 0)), (5, v1), (6, (.bool y2)), (7, (Zv k1))]) hF1 (cw_seq (cw_seq (Zr (Zo Z Z Z (Zm Z Z (Zo Z Z Z (Zm Z Z ?_)))))))
  have lz1 := ((hl1.trans hl2).trans hl3)
  refine Zo Z Z Z (ow_len Z Z (VRep.mono lz1 h0) Tryd.underlying59 Z (Zo Z Z Z (ow_lss Z Z Z fun bb1 hbb1 => Zn (Ze ?_))))
  replace hb3 := Zc hb3
  rcases hb3 with ⟨hc1, hb3⟩ | ⟨hc1, hb3⟩
  ·
   obtain rfl := hbb1.trans hc1
   refine cw_true Z (cw_skip (Ze (cw_seq (cw_block (cw_seq (Zr (Zo Z Z Z (Zm Z Z (Zo Z Z Z (Zm Z Z ?_))))))))))
   replace hb3 := bind_some hb3
   obtain ⟨x1, hx1, hb3⟩ := hb3
   refine Zo Z Z Z (Zx (R := RSpan) Z Z Z (VRep.mono lz1 h0) Tryd.underlying59 (Tryd.sizeOf69 _) hx1 fun p2 hp2 => Zo Z Z Z (Zl (R := RSpan) Z Z hp2 (Tryd.sizeOf69 _) (Tryd.isAgg69 _) fun v6 hv6 => lw_allocStore (R := RSpan) Z Z Z Z Z Z Z Tryd.zeroValue69 Tryd.sizeOf69 Z Z Z (by simp) hv6 hC3 fun p3 w4 hp3 hb4 hl4 hC4 => ?_))
   have ho4 := ho3.no hb4
   have hr2 := hw1.no hb4
   refine Zn (Ze (cw_block (cw_seq (Zr (Zo Z Z Z (Zf Z Z Tryd.underlying69 Z (Tryd.sizeOf3 _) (Zo Z Z Z (Zl (R := RInt) Z Z (hp3.fld fld_Span_Hi) (Tryd.sizeOf3 _) (Tryd.isAgg3 _) fun v7 hv7 => ?_))))))))
   obtain rfl := Zi hv7
   refine Zo Z Z Z (ow_add Z Z Z (Zo Z Z Z (Zf Z Z Tryd.underlying69 Z (Tryd.sizeOf3 _) (Zo Z Z Z (ow_loadOwn1 Z Z Z ho4 (Tryd.isAgg3 _) Z (Zo Z Z Z (ow_lss Z Z Z fun bb2 hbb2 => Zo Z Z Z (Za Z Z (Zn (Ze ?_))))))))))
   replace hb3 := Zc hb3
   rcases hb3 with ⟨hc2, hb3⟩ | ⟨hc2, hb3⟩
   ·
    obtain rfl := hbb2.trans hc2
    refine cw_true Z (Zr (Zo Z Z Z (Zm Z Z (Zo Z Z Z (Zl (R := RSpan) Z Z hp3 (Tryd.sizeOf69 _) (Tryd.isAgg69 _) fun v8 hv8 => ?_)))))
    obtain rfl := open_Span hv8
    refine Zo Z Z Z (ow_buildSlice (R := RSpan) (xs := [x1]) (cs := #[(Zv x1.Lo), (Zv x1.Hi)]) (e := 69) Z Z (by kernel_rfl) Z Z ⟨_, _, Z, hv8.cells, Z⟩ hC4 fun p4 w5 hw2 hb5 hl5 hC5 => ?_)
    have ho5 := ho4.no hb5
    have hr3 := hr2.no hb5
    replace hb3 := bind_some hb3
    obtain ⟨z1, hz1, hb3⟩ := hb3
    refine Zo Z Z Z (ow_append (R := RSpan) Z Z Z Z Tryd.underlying59 hi69 hz69 hs69 hy69 Z Z Z Z hr3 hw2 hz1 hC5 fun v9 w6 M3 hr4 hb6 hl6 hC6 hM2 hat2 => ?_)
    have hn3 : v9.ownBlock ≠ some g1 := nb_app hn2 hat2 ho5
    have ho6 := ho5.go hb6 (fun e => hn2 e)
    have hm4 := hM2 _ hm3
    refine Zo Z Z Z (Za Z Z (Zn (ew_blockN (ew_blockN (Ze (Zr (Zo Z Z Z (Zm Z Z (Zo Z Z Z (ow_add Z Z Z (Zo Z Z Z (Za Z Z (Zn ?_)))))))))))))
    have lz2 := (((hl3.trans hl4).trans hl5).trans hl6)
    exact ew_nxt (z1, y2, (W (k1 + 1)), k2, k3) hb3 fun a ha => ⟨M3, v9, (ha.sub ⟨Z, Z, Z, Z, Z, Zt⟩), lz2, hC6, hr4, ho6, hm4, hn3⟩
   ·
    obtain rfl := hbb2.trans hc2
    refine Zu Z (cw_seq (Zr (Zo Z Z Z (Zf Z Z Tryd.underlying69 Z (Tryd.sizeOf3 _) (Zo Z Z Z (Zl (R := RInt) Z Z (hp3.fld fld_Span_Lo) (Tryd.sizeOf3 _) (Tryd.isAgg3 _) fun v10 hv10 => ?_))))))
    obtain rfl := Zi hv10
    refine Zo Z Z Z (Zf Z Z Tryd.underlying69 Z (Tryd.sizeOf3 _) (Zo Z Z Z (ow_loadOwn1 Z Z Z ho4 (Tryd.isAgg3 _) Z (Zo Z Z Z (ow_add Z Z Z (Zo Z Z Z (ow_gtr Z Z Z fun bb3 hbb3 => Zo Z Z Z (Za Z Z (Zn (Ze ?_))))))))))
    replace hb3 := Zc hb3
    rcases hb3 with ⟨hc3, hb3⟩ | ⟨hc3, hb3⟩
    ·
     obtain rfl := hbb3.trans hc3
     refine cw_true Z (cw_seq (cw_seq (Zr (Zo Z Z Z (Zm Z Z (Zo Z Z Z (ow_not Z Z (Zn (Ze ?_)))))))))
     replace hb3 := Zc hb3
     rcases hb3 with ⟨hc4, hb3⟩ | ⟨hc4, hb3⟩
     ·
      subst hc4
      refine Zu Z (cw_skip (Ze (Zr (Zo Z Z Z (Zm Z Z (Zo Z Z Z (Zl (R := RSpan) Z Z hp3 (Tryd.sizeOf69 _) (Tryd.isAgg69 _) fun v11 hv11 => ?_)))))))
      obtain rfl := open_Span hv11
      refine Zo Z Z Z (ow_buildSlice (R := RSpan) (xs := [x1]) (cs := #[(Zv x1.Lo), (Zv x1.Hi)]) (e := 69) Z Z (by kernel_rfl) Z Z ⟨_, _, Z, hv11.cells, Z⟩ hC4 fun p5 w7 hw3 hb7 hl7 hC7 => ?_)
      have ho7 := ho4.no hb7
      have hr5 := hr2.no hb7
      replace hb3 := bind_some hb3
      obtain ⟨z2, hz2, hb3⟩ := hb3
      refine Zo Z Z Z (ow_append (R := RSpan) Z Z Z Z Tryd.underlying59 hi69 hz69 hs69 hy69 Z Z Z Z hr5 hw3 hz2 hC7 fun v12 w8 M4 hr6 hb8 hl8 hC8 hM3 hat3 => ?_)
      have hn4 : v12.ownBlock ≠ some g1 := nb_app hn2 hat3 ho7
      have ho8 := ho7.go hb8 (fun e => hn2 e)
      have hm5 := hM3 _ hm3
      refine Zo Z Z Z (Za Z Z (Zn (ew_blockN (ew_blockN (Ze (Zr (Zo Z Z Z (Zm Z Z (Zo Z Z Z (ow_add Z Z Z (Zo Z Z Z (Za Z Z (Zn ?_)))))))))))))
      have lz3 := (((hl3.trans hl4).trans hl7).trans hl8)
      exact ew_nxt (z2, true, (W (k1 + 1)), k2, k3) hb3 fun a ha => ⟨M4, v12, (ha.sub ⟨Z, Z, Z, Z, Z, Zt⟩), lz3, hC8, hr6, ho8, hm5, hn4⟩
     ·
      subst hc4
      refine cw_true Z (cw_seq (Zr (Zo Z Z Z (Zm Z Z (Zo Z Z Z (ow_loadOwnA Z Z Z ho4 (Tryd.isAgg69 _) (Tryd.sizeOf69 _) Z ?_))))))
      have hw4 : VRep RSpan w4 M2 ({ Lo := k2, Hi := k3 } : Span) (.agg #[(Zv k2), (Zv k3)]) := shut_Span
      refine Zo Z Z Z (ow_buildSlice (R := RSpan) (xs := [({ Lo := k2, Hi := k3 } : Span)]) (cs := #[(Zv k2), (Zv k3)]) (e := 69) Z Z (by kernel_rfl) Z Z ⟨_, _, Z, hw4.cells, Z⟩ hC4 fun p6 w9 hw5 hb9 hl9 hC9 => ?_)
      have ho9 := ho4.no hb9
      have hr7 := hr2.no hb9
      replace hb3 := bind_some hb3
      obtain ⟨z3, hz3, hb3⟩ := hb3
      refine Zo Z Z Z (ow_append (R := RSpan) Z Z Z Z Tryd.underlying59 hi69 hz69 hs69 hy69 Z Z Z Z hr7 hw5 hz3 hC9 fun v13 w10 M5 hr8 hb10 hl10 hC10 hM4 hat4 => ?_)
      have hn5 : v13.ownBlock ≠ some g1 := nb_app hn2 hat4 ho9
      have ho10 := ho9.go hb10 (fun e => hn2 e)
      have hm6 := hM4 _ hm3
      refine Zo Z Z Z (Za Z Z (Zn (Ze (Zr (Zo Z Z Z (Za Z Z (Zn (Ze (Zr (Zo Z Z Z (Zm Z Z (Zo Z Z Z (Zl (R := RSpan) Z Z (ARep.mono (hl9.trans hl10) hp3) (Tryd.sizeOf69 _) (Tryd.isAgg69 _) fun v14 hv14 => ?_)))))))))))))
      obtain rfl := open_Span hv14
      refine Zo Z Z Z (ow_buildSlice (R := RSpan) (xs := [x1]) (cs := #[(Zv x1.Lo), (Zv x1.Hi)]) (e := 69) Z Z (by kernel_rfl) Z Z ⟨_, _, Z, hv14.cells, Z⟩ hC10 fun p7 w11 hw6 hb11 hl11 hC11 => ?_)
      have ho11 := ho10.no hb11
      have hr9 := hr8.no hb11
      replace hb3 := bind_some hb3
      obtain ⟨z4, hz4, hb3⟩ := hb3
      refine Zo Z Z Z (ow_append (R := RSpan) Z Z Z Z Tryd.underlying59 hi69 hz69 hs69 hy69 Z Z Z Z hr9 hw6 hz4 hC11 fun v15 w12 M6 hr10 hb12 hl12 hC12 hM5 hat5 => ?_)
      have hn6 : v15.ownBlock ≠ some g1 := nb_app hn5 hat5 ho11
      have ho12 := ho11.go hb12 (fun e => hn5 e)
      have hm7 := hM5 _ hm6
      refine Zo Z Z Z (Za Z Z (Zn (ew_blockN (ew_blockN (Ze (Zr (Zo Z Z Z (Zm Z Z (Zo Z Z Z (ow_add Z Z Z (Zo Z Z Z (Za Z Z (Zn ?_)))))))))))))
      have lz4 := (((((hl3.trans hl4).trans hl9).trans hl10).trans hl11).trans hl12)
      exact ew_nxt (z4, true, (W (k1 + 1)), k2, k3) hb3 fun a ha => ⟨M6, v15, (ha.sub ⟨Z, Z, Z, Z, Z, Zt⟩), lz4, hC12, hr10, ho12, hm7, hn6⟩
    ·
     obtain rfl := hbb3.trans hc3
     refine Zu Z (Zr (Zo Z Z Z (Zf Z Z Tryd.underlying69 Z (Tryd.sizeOf3 _) (Zo Z Z Z (ow_loadOwn1 Z Z Z ho4 (Tryd.isAgg3 _) Z (Zo Z Z Z (Zf Z Z Tryd.underlying69 Z (Tryd.sizeOf3 _) (Zo Z Z Z (Zl (R := RInt) Z Z (hp3.fld fld_Span_Lo) (Tryd.sizeOf3 _) (Tryd.isAgg3 _) fun v16 hv16 => ?_)))))))))
     obtain rfl := Zi hv16
     refine Zo Z Z Z (ow_min Z Z Z (Zo Z Z Z (Zf Z Z Tryd.underlying69 Z (Tryd.sizeOf3 _) (Zo Z Z Z (ow_loadOwn1 Z Z Z ho4 (Tryd.isAgg3 _) Z (Zo Z Z Z (Zf Z Z Tryd.underlying69 Z (Tryd.sizeOf3 _) (Zo Z Z Z (Zl (R := RInt) Z Z (hp3.fld fld_Span_Hi) (Tryd.sizeOf3 _) (Tryd.isAgg3 _) fun v17 hv17 => ?_)))))))))
     obtain rfl := Zi hv17
     refine Zo Z Z Z (ow_max Z Z Z (Zo Z Z Z (ow_build (v := .agg #[(Zv (imin k2 x1.Lo)), (Zv (imax k3 x1.Hi))]) Z Z (by kernel_rfl) (lw_op0 Z Z (ow_store (X := No) (us := [(Zv (imin k2 x1.Lo)), (Zv (imax k3 x1.Hi))]) (cs' := #[(Zv (imin k2 x1.Lo)), (Zv (imax k3 x1.Hi))]) Z Z Z Z ho4 (Tryd.sizeOf69 _) Z Z Z Z hm3 (.inl hg2) Z hC4 fun w13 ho13 hb13 hl13 hC13 => ?_)))))
     have hr11 := hr2.go hb13 (fun k hk e => hn2 (hk.trans (congrArg some e))) hl13 (fun _ h => h)
     refine Zn (ew_blockN (ew_blockN (Ze (Zr (Zo Z Z Z (Zm Z Z (Zo Z Z Z (ow_add Z Z Z (Zo Z Z Z (Za Z Z (Zn ?_)))))))))))
     have lz5 := ((hl3.trans hl4).trans hl13)
     exact ew_nxt (y1, y2, (W (k1 + 1)), (imin k2 x1.Lo), (imax k3 x1.Hi)) hb3 fun a ha => ⟨M2, v1, (ha.sub ⟨Z, Z, Z, Z, Z, Zt⟩), lz5, hC13, hr11, ho13, hm3, hn2⟩
  ·
   obtain rfl := hbb1.trans hc1
   exact Zu Z (cw_exit (ew_thenX (ew_thenX (ew_blockX (ew_brk (y1, y2, k1, k2, k3) hb3 fun a ha => ⟨M2, v1, (ha.sub ⟨Z, Z, Z, Z, Z, Zt⟩), hl3, hC3, hw1, ho3, hm3, hn2⟩)))))
 ·
  rintro ⟨y3, y4, k4, k5, k6⟩ a w14 hlr2 ⟨M7, v18, hF2, hl14, hC14, hw8, ho14, hm8, hn7⟩
  subst hlr2
  refine ew_at (E := [(0, v0p), (3, (Zw g1 0)), (5, v18), (6, (.bool y4)), (7, (Zv k4))]) hF2 (Ze (cw_seq (cw_seq (Zr (Zo Z Z Z (Zm Z Z (Zo Z Z Z (ow_not Z Z (Zn (Ze ?_))))))))))
  replace h := Zc h
  rcases h with ⟨hc5, h⟩ | ⟨hc5, h⟩
  ·
   subst hc5
   refine Zu Z (cw_skip (Ze (cw_seq (Zr (Zo Z Z Z (Zm Z Z (Zo Z Z Z (Za Z Z (Zn (Ze (Zy ?_)))))))))))
   obtain rfl := sj h
   exact ew_ret (res1 Z (.tmp Z)) ⟨_, Z, ⟨M7, hw8, hC14⟩, hC14.bx⟩
  ·
   subst hc5
   refine cw_true Z (Zr (Zo Z Z Z (Zm Z Z (Zo Z Z Z (ow_loadOwnA Z Z Z ho14 (Tryd.isAgg69 _) (Tryd.sizeOf69 _) Z ?_)))))
   have hw9 : VRep RSpan w14 M7 ({ Lo := k5, Hi := k6 } : Span) (.agg #[(Zv k5), (Zv k6)]) := shut_Span
   refine Zo Z Z Z (ow_buildSlice (R := RSpan) (xs := [({ Lo := k5, Hi := k6 } : Span)]) (cs := #[(Zv k5), (Zv k6)]) (e := 69) Z Z (by kernel_rfl) Z Z ⟨_, _, Z, hw9.cells, Z⟩ hC14 fun p8 w15 hw10 hb14 hl15 hC15 => ?_)
   have hr12 := hw8.no hb14
   replace h := bind_some h
   obtain ⟨z5, hz5, h⟩ := h
   refine Zo Z Z Z (ow_append (R := RSpan) Z Z Z Z Tryd.underlying59 hi69 hz69 hs69 hy69 Z Z Z Z hr12 hw10 hz5 hC15 fun v23 w16 M8 hr13 hb15 hl16 hC16 hM6 hat6 => Zo Z Z Z (Za Z Z (Zn (Ze (cw_seq (Zr (Zo Z Z Z (Zm Z Z (Zo Z Z Z (Za Z Z (Zn (Ze (Zy ?_)))))))))))))
   obtain rfl := sj h
   exact ew_ret (res1 Z (.tmp Z)) ⟨_, Z, ⟨M8, hr13, hC16⟩, hC16.bx⟩

theorem w_spec_l1Add {w : World} {M : Nat → Prop} (hG : ARep (RArr 4 RShape) w M shapes ⟨0, 0, none⟩) (hO : ∀ b, M b → b < w.heap.size) {v0p : Value} {a_list : List Span} (h0 : VRep (RSlice RSpan) w M a_list v0p) {v1p : Value} {a_s : Span} (h1 : VRep RSpan w M a_s v1p) {r : (List Span)} (h : F.spec_l1Add a_list a_s = some r) :
  Calls Tryd.prog 107 [v0p, v1p].toArray w fun e w' => ∃ v, e = .returned v ∧ VRep (RSlice RSpan) w' M r v ∧ BX No w w' := by
 refine Calls.mono (wo_spec_l1Add hG hO h0 h1 h) fun e w1 hz => ?_
 obtain ⟨v, e1, ⟨M1, hr, hc⟩, hb⟩ := hz
 exact ⟨v, e1, hr.freezeBack hc hO, hb⟩

theorem wo_spec_SpansOf {w : World} {M : Nat → Prop} (hG : ARep (RArr 4 RShape) w M shapes ⟨0, 0, none⟩) (hO : ∀ b, M b → b < w.heap.size) {v0p : Value} {a_list : List Span} (h0 : VRep (RSlice RSpan) w M a_list v0p) {a_top : Int} {r : (List Span)} (h : F.spec_SpansOf a_list a_top = some r) :
  Calls Tryd.prog 91 [v0p, (.int .i64 a_top)].toArray w fun e w' => ∃ v, e = .returned v ∧ (∃ M', OwnRow RSpan w.heap.size 69 w' M' r v ∧ Cx No w M w' M') ∧ BX No w w' := by
 have hC : Cx No w M w M := Cx.start hO (fun _ e => e.elim)
 refine walk (N := 53) Tryd.func91 Z Tryd.ntmps91 Z (cw_seq (Zr (Zo Z Z Z (Za Z Z (Zn (Ze (cw_seq (Zr (Zo Z Z Z (ow_buildSlice0 (R := RSpan) (e := 69) Z (by kernel_rfl) hC fun p1 w1 M1 hr1 hb1 hl1 hC1 hM1 hat1 => Zo Z Z Z (Za Z Z (Zn (Ze (cw_seq (cw_seq (Zr (Zo Z Z Z (Zm Z Z ?_))))))))))))))))))
 replace h := bind_some h
 obtain ⟨x1, hx1, h⟩ := h
 refine Zo Z Z Z (Zk Z Z Tryd.call76 (w_spec_l1In (hG.mono hl1) hC1.old hx1) fun v1 w2 hv1 => ?_)
 obtain ⟨hv1, hb2⟩ := hv1
 have hl2 := Le.no M1 hb2
 have hC2 := hC1.no hb2
 have hr2 := hr1.no hb2
 obtain rfl := vbool_eq hv1
 refine Zo Z Z Z (ow_not Z Z (Zo Z Z Z (Zm Z Z ?_)))
 replace h := Zc h
 rcases h with ⟨hc1, h⟩ | ⟨hc1, h⟩
 ·
  subst hc1
  refine lw_on Z Z Z Z Z Z (Zm Z Z (lw_on Z Z Z Z Z Z (ow_len Z Z (VRep.mono (hl1.trans hl2) h0) Tryd.underlying59 Z (lw_on Z Z Z Z Z Z (ow_gtr Z Z Z fun bb1 hbb1 => Zo Z Z Z (ow_pickF Z Z Z (Zn (Ze ?_))))))))
  replace h := Zc h
  rcases h with ⟨hc2, h⟩ | ⟨hc2, h⟩
  ·
   obtain rfl := hbb1.trans hc2
   refine cw_true Z (cw_seq (Zr (Zo Z Z Z (Zm Z Z (Zo Z Z Z (Za Z Z (Zn (Ze (Zy (Zh ?_))))))))))
   obtain rfl := sj h
   exact ew_ret (res1 Z (.tmp Z)) ⟨_, Z, ⟨M1, hr2, hC2⟩, hC2.bx⟩
  ·
   obtain rfl := hbb1.trans hc2
   refine Zu Z (cw_skip (Ze (cw_seq (cw_seq (Zr (Zo Z Z Z (Za Z Z (Zn (Ze ?_)))))))))
   replace h := bind_some h
   obtain ⟨lr1, hlr1, h⟩ := h
   refine cw_for hlr1 (fun s a w' => ∃ (M' : Nat → Prop) (v0c : Value), Fits 53 [(0, v0p), (1, (Zv a_top)), (5, v0c), (6, (Zv s.2))] a ∧ Le w2 M1 w' M' ∧ Cx No w M w' M' ∧ OwnRow RSpan w.heap.size 69 w' M' s.1 v0c) ?_ ?_ ?_
   · exact fun a ha => ⟨M1, (.slice (some p1) 0 0), ha.sub ⟨Z, Z, Z, Z, Zt⟩, Le.refl _ _, hC2, hr2⟩
   ·
    rintro ⟨y1, k1⟩ a w3 sr1 ⟨M2, v2, hF1, hl3, hC3, hw1⟩ hb3 hR1
    refine cw_at (E := [(0, v0p), (1, (Zv a_top)), (5, v2), (6, (Zv k1))]) hF1 (cw_seq (cw_seq (Zr (Zo Z Z Z (Zm Z Z (Zo Z Z Z (Zm Z Z ?_)))))))
    have lz1 := ((hl1.trans hl2).trans hl3)
    refine Zo Z Z Z (ow_len Z Z (VRep.mono lz1 h0) Tryd.underlying59 Z (Zo Z Z Z (ow_lss Z Z Z fun bb2 hbb2 => Zn (Ze ?_))))
    replace hb3 := Zc hb3
    rcases hb3 with ⟨hc3, hb3⟩ | ⟨hc3, hb3⟩
    ·
     obtain rfl := hbb2.trans hc3
     refine cw_true Z (cw_skip (Ze (cw_seq (cw_block (cw_seq (cw_seq ?_))))))
     replace hb3 := bind_some hb3
     obtain ⟨x2, hx2, hb3⟩ := hb3
     replace hb3 := bind_some hb3
     obtain ⟨x3, hx3, hb3⟩ := hb3
     replace hb3 := Zc hb3
     rcases hb3 with ⟨hc4, hb3⟩ | ⟨hc4, hb3⟩
     ·
      subst hc4
      refine cw_sub (E' := [(0, v0p), (1, (Zv a_top)), (5, v2), (6, (Zv k1))]) ⟨Z, Z, Z, Z, Zt⟩ (cw_drawQ 19 [PV (RSlice RSpan) M2 a_list, PEq (Zv k1), PA RSpan M2 x2, PA RInt M2 x2.Lo, PEq (Zv x2.Lo), PV (RSlice RSpan) M2 a_list, PEq (Zv k1), PA RSpan M2 x2, PA RInt M2 x2.Hi, PEq (Zv x2.Hi), PEq (.bool true), PEq (.bool false), PEq (.bool false), PV (RSlice RSpan) M2 a_list, PEq (Zv k1), PA RSpan M2 x2, PA RInt M2 x2.Hi, PEq (Zv x2.Hi), PEq (Zv a_top)] (by kernel_rfl) Z (by kernel_rfl) ⟨PV.mono _ _ _, Zq, PA.mono _ _ _, PA.mono _ _ _, Zq, PV.mono _ _ _, Zq, PA.mono _ _ _, PA.mono _ _ _, Zq, Zq, Zq, Zq, PV.mono _ _ _, Zq, PA.mono _ _ _, PA.mono _ _ _, Zq, Zq, Zt⟩ ⟨?_, ?_, ?_, ?_, ?_, ?_, ?_, ?_, ?_, ?_, ?_, ?_, ?_, ?_, ?_, ?_, ?_, ?_, ?_, Zt⟩ ?_)
      ·
       intro w5 D hS1 hd1
       have hl5 := Le.no M2 hS1
       exact Zs (E' := [(0, v0p)]) ⟨Z, Zt⟩ (Zp Z (Zm Z Z ⟨BX.refl _ _, (VRep.mono (lz1.trans hl5) h0)⟩))
      · exact fun w6 D hS2 hd2 => Zs (E' := [(6, (Zv k1))]) ⟨Z, Zt⟩ (Zp Z (Zm Z Z Zb))
      ·
       intro w7 D hS3 hd3
       have d1 : PV (RSlice RSpan) M2 a_list (D 0) w7 := dpA hd3 0 Z
       generalize hq1 : (D 0) = v8 at d1
       exact Zs (E' := [(23, v8), (24, (Zv k1))]) ⟨congrArg some hq1, dpE hd3 1 Z Z, Zt⟩ (Zp Z (Zx (R := RSpan) Z Z Z d1 Tryd.underlying59 (Tryd.sizeOf69 _) hx2 fun p5 hp5 => ⟨BX.refl _ _, ⟨_, Z, hp5⟩⟩))
      ·
       intro w8 D hS4 hd4
       have d3 : PA RSpan M2 x2 (D 2) w8 := dpA hd4 2 Z
       obtain ⟨p6, e1, ha1⟩ := d3
       exact Zs (E' := [(25, (.pointer (some p6)))]) ⟨congrArg some e1, Zt⟩ (Zp Z (Zf Z Z Tryd.underlying69 Z (Tryd.sizeOf3 _) ⟨BX.refl _ _, ⟨_, Z, (ha1.fld fld_Span_Lo)⟩⟩))
      ·
       intro w9 D hS5 hd5
       have d4 : PA RInt M2 x2.Lo (D 3) w9 := dpA hd5 3 Z
       obtain ⟨p7, e2, ha2⟩ := d4
       refine Zs (E' := [(26, (.pointer (some p7)))]) ⟨congrArg some e2, Zt⟩ (Zp Z (Zl (R := RInt) Z Z ha2 (Tryd.sizeOf3 _) (Tryd.isAgg3 _) fun v9 hv9 => ?_))
       obtain rfl := Zi hv9
       exact Zb
      ·
       intro w10 D hS6 hd6
       have hl10 := Le.no M2 hS6
       exact Zs (E' := [(0, v0p)]) ⟨Z, Zt⟩ (Zp Z (Zm Z Z ⟨BX.refl _ _, (VRep.mono (lz1.trans hl10) h0)⟩))
      · exact fun w11 D hS7 hd7 => Zs (E' := [(6, (Zv k1))]) ⟨Z, Zt⟩ (Zp Z (Zm Z Z Zb))
      ·
       intro w12 D hS8 hd8
       have d5 : PV (RSlice RSpan) M2 a_list (D 5) w12 := dpA hd8 5 Z
       generalize hq2 : (D 5) = v10 at d5
       exact Zs (E' := [(28, v10), (29, (Zv k1))]) ⟨congrArg some hq2, dpE hd8 6 Z Z, Zt⟩ (Zp Z (Zx (R := RSpan) Z Z Z d5 Tryd.underlying59 (Tryd.sizeOf69 _) hx2 fun p8 hp8 => ⟨BX.refl _ _, ⟨_, Z, hp8⟩⟩))
      ·
       intro w13 D hS9 hd9
       have d7 : PA RSpan M2 x2 (D 7) w13 := dpA hd9 7 Z
       obtain ⟨p9, e3, ha3⟩ := d7
       exact Zs (E' := [(30, (.pointer (some p9)))]) ⟨congrArg some e3, Zt⟩ (Zp Z (Zf Z Z Tryd.underlying69 Z (Tryd.sizeOf3 _) ⟨BX.refl _ _, ⟨_, Z, (ha3.fld fld_Span_Hi)⟩⟩))
      ·
       intro w14 D hS10 hd10
       have d8 : PA RInt M2 x2.Hi (D 8) w14 := dpA hd10 8 Z
       obtain ⟨p10, e4, ha4⟩ := d8
       refine Zs (E' := [(31, (.pointer (some p10)))]) ⟨congrArg some e4, Zt⟩ (Zp Z (Zl (R := RInt) Z Z ha4 (Tryd.sizeOf3 _) (Tryd.isAgg3 _) fun v11 hv11 => ?_))
       obtain rfl := Zi hv11
       exact Zb
      ·
       intro w15 D hS11 hd11
       have hl15 := Le.no M2 hS11
       have hC15 := hC3.no hS11
       refine Zs (E' := [(27, (Zv x2.Lo)), (32, (Zv x2.Hi))]) ⟨dpE hd11 4 Z Z, dpE hd11 9 Z Z, Zt⟩ (Zp Z (Zk Z Z Tryd.call76 (w_spec_l1In (hG.mono (lz1.trans hl15)) hC15.old hx3) fun v12 w16 hv12 => ?_))
       obtain ⟨hv12, hb5⟩ := hv12
       obtain rfl := vbool_eq hv12
       exact ⟨hb5, Z⟩
      · exact fun w17 D hS12 hd12 => Zs (E' := [(33, (.bool true))]) ⟨dpE hd12 10 Z Z, Zt⟩ (Zp Z (ow_not Z Z Zb))
      · exact fun w18 D hS13 hd13 => Zs (E' := [(34, (.bool false))]) ⟨dpE hd13 11 Z Z, Zt⟩ (Zp Z (Zm Z Z Zb))
      ·
       intro w19 D hS14 hd14
       have hl19 := Le.no M2 hS14
       exact Zs (E' := [(35, (.bool false)), (0, v0p)]) ⟨dpE hd14 12 Z Z, Z, Zt⟩ (dg_on Z Z Z Z (Zm Z Z ⟨BX.refl _ _, (VRep.mono (lz1.trans hl19) h0)⟩))
      · exact fun w20 D hS15 hd15 => Zs (E' := [(35, (.bool false)), (6, (Zv k1))]) ⟨dpE hd15 12 Z Z, Z, Zt⟩ (dg_on Z Z Z Z (Zm Z Z Zb))
      ·
       intro w21 D hS16 hd16
       have d16 : PV (RSlice RSpan) M2 a_list (D 13) w21 := dpA hd16 13 Z
       generalize hq3 : (D 13) = v13 at d16
       exact Zs (E' := [(36, v13), (37, (Zv k1)), (35, (.bool false))]) ⟨congrArg some hq3, dpE hd16 14 Z Z, dpE hd16 12 Z Z, Zt⟩ (dg_on Z Z Z Z (Zx (R := RSpan) Z Z Z d16 Tryd.underlying59 (Tryd.sizeOf69 _) hx2 fun p11 hp11 => ⟨BX.refl _ _, ⟨_, Z, hp11⟩⟩))
      ·
       intro w22 D hS17 hd17
       have d19 : PA RSpan M2 x2 (D 15) w22 := dpA hd17 15 Z
       obtain ⟨p12, e5, ha5⟩ := d19
       exact Zs (E' := [(38, (.pointer (some p12))), (35, (.bool false))]) ⟨congrArg some e5, dpE hd17 12 Z Z, Zt⟩ (dg_on Z Z Z Z (Zf Z Z Tryd.underlying69 Z (Tryd.sizeOf3 _) ⟨BX.refl _ _, ⟨_, Z, (ha5.fld fld_Span_Hi)⟩⟩))
      ·
       intro w23 D hS18 hd18
       have d21 : PA RInt M2 x2.Hi (D 16) w23 := dpA hd18 16 Z
       obtain ⟨p13, e6, ha6⟩ := d21
       refine Zs (E' := [(39, (.pointer (some p13))), (35, (.bool false))]) ⟨congrArg some e6, dpE hd18 12 Z Z, Zt⟩ (dg_on Z Z Z Z (Zl (R := RInt) Z Z ha6 (Tryd.sizeOf3 _) (Tryd.isAgg3 _) fun v14 hv14 => ?_))
       obtain rfl := Zi hv14
       exact Zb
      · exact fun w24 D hS19 hd19 => Zs (E' := [(35, (.bool false)), (1, (Zv a_top))]) ⟨dpE hd19 12 Z Z, Z, Zt⟩ (dg_on Z Z Z Z (Zm Z Z Zb))
      ·
       intro w25 D hS20 hd20
       have hl25 := Le.no M2 hS20
       have hC25 := hC3.no hS20
       have hr24 := hw1.no hS20
       refine lw_sub (E' := [(35, (.bool false)), (40, (Zv x2.Hi)), (41, (Zv a_top)), (0, v0p), (1, (Zv a_top)), (5, v2), (6, (Zv k1))]) ⟨dpE hd20 12 Z Z, dpE hd20 17 Z Z, dpE hd20 18 Z Z, Z, Z, Z, Z, Zt⟩ ?_
       replace hb3 := bind_some hb3
       obtain ⟨x4, hx4, hb3⟩ := hb3
       refine lw_on Z Z Z Z Z Z (Zk Z Z Tryd.call76 (w_spec_l1In (hG.mono (lz1.trans hl25)) hC25.old hx4) fun v15 w26 hv15 => ?_)
       obtain ⟨hv15, hb6⟩ := hv15
       have hl26 := Le.no M2 hb6
       have hC26 := hC25.no hb6
       have hr25 := hr24.no hb6
       obtain rfl := vbool_eq hv15
       refine lw_on Z Z Z Z Z Z (ow_not Z Z (Zo Z Z Z (ow_pickF Z Z Z (Zn (Ze ?_)))))
       replace hb3 := Zc hb3
       rcases hb3 with ⟨hc5, hb3⟩ | ⟨hc5, hb3⟩
       ·
        subst hc5
        refine Zu Z (cw_skip (Ze (Zr (Zo Z Z Z (Zm Z Z (Zo Z Z Z (Zm Z Z (Zo Z Z Z (Zm Z Z ?_)))))))))
        have lz2 := ((lz1.trans hl25).trans hl26)
        refine Zo Z Z Z (Zx (R := RSpan) Z Z Z (VRep.mono lz2 h0) Tryd.underlying59 (Tryd.sizeOf69 _) hx2 fun p14 hp14 => Zo Z Z Z (Zl (R := RSpan) Z Z hp14 (Tryd.sizeOf69 _) (Tryd.isAgg69 _) fun v16 hv16 => ?_))
        have hw2 := hr25.freezeDel
        have hC27 := hr25.cxDel hC26 (fun _ e => e.elim) hO
        have hl27 := Le.del w26 M2 v2
        replace hb3 := bind_some hb3
        obtain ⟨x5, hx5, hb3⟩ := hb3
        refine Zo Z Z Z (Zk Z Z Tryd.call107 (wo_spec_l1Add (hG.mono (lz2.trans hl27)) hC27.old hw2 (VRep.mono hl27 hv16) hx5) fun v17 w27 hv17 => ?_)
        obtain ⟨⟨M3, hr26, hk1⟩, hb7⟩ := hv17
        replace hr26 := hr26.base hC27.bx.size
        have hl28 := hk1.le
        have hC28 := hC27.trans hk1
        refine Zo Z Z Z (Za Z Z (Zn (ew_blockN (Ze (Zr (Zo Z Z Z (Zm Z Z (Zo Z Z Z (ow_add Z Z Z (Zo Z Z Z (Za Z Z (Zn ?_))))))))))))
        have lz3 := ((((hl3.trans hl25).trans hl26).trans hl27).trans hl28)
        exact ew_nxt (x5, (W (k1 + 1))) hb3 fun a ha => ⟨M3, v17, (ha.sub ⟨Z, Z, Z, Z, Zt⟩), lz3, hC28, hr26⟩
       ·
        subst hc5
        refine cw_true Z (cw_seq (Zr (Zo Z Z Z (ow_buildSlice0 (R := RSpan) (e := 69) Z (by kernel_rfl) hC26 fun p15 w28 M4 hr27 hb8 hl29 hC29 hM2 hat2 => Zo Z Z Z (Za Z Z (Zn (Ze (Zy (Zh (ew_blockR (Zh (Zh (ew_blockR (ew_brkR (Zh ?_)))))))))))))))
        have e7 := hR1 _ (sj hb3).symm
        subst e7
        obtain rfl := sj h
        exact ew_ret (res1 Z (.tmp Z)) ⟨_, Z, ⟨M4, hr27, hC29⟩, hC29.bx⟩
     ·
      subst hc4
      refine cw_sub (E' := [(0, v0p), (1, (Zv a_top)), (5, v2), (6, (Zv k1))]) ⟨Z, Z, Z, Z, Zt⟩ (cw_drawQ 19 [PV (RSlice RSpan) M2 a_list, PEq (Zv k1), PA RSpan M2 x2, PA RInt M2 x2.Lo, PEq (Zv x2.Lo), PV (RSlice RSpan) M2 a_list, PEq (Zv k1), PA RSpan M2 x2, PA RInt M2 x2.Hi, PEq (Zv x2.Hi), PEq (.bool false), PEq (.bool true), PEq (.bool true), PEq undef, PEq undef, PEq undef, PEq undef, PEq undef, PEq undef] (by kernel_rfl) Z (by kernel_rfl) ⟨PV.mono _ _ _, Zq, PA.mono _ _ _, PA.mono _ _ _, Zq, PV.mono _ _ _, Zq, PA.mono _ _ _, PA.mono _ _ _, Zq, Zq, Zq, Zq, Zq, Zq, Zq, Zq, Zq, Zq, Zt⟩ ⟨?_, ?_, ?_, ?_, ?_, ?_, ?_, ?_, ?_, ?_, ?_, ?_, ?_, ?_, ?_, ?_, ?_, ?_, ?_, Zt⟩ ?_)
      ·
       intro w29 D hS21 hd21
       have hl30 := Le.no M2 hS21
       exact Zs (E' := [(0, v0p)]) ⟨Z, Zt⟩ (Zp Z (Zm Z Z ⟨BX.refl _ _, (VRep.mono (lz1.trans hl30) h0)⟩))
      · exact fun w30 D hS22 hd22 => Zs (E' := [(6, (Zv k1))]) ⟨Z, Zt⟩ (Zp Z (Zm Z Z Zb))
      ·
       intro w31 D hS23 hd23
       have d43 : PV (RSlice RSpan) M2 a_list (D 0) w31 := dpA hd23 0 Z
       generalize hq4 : (D 0) = v18 at d43
       exact Zs (E' := [(23, v18), (24, (Zv k1))]) ⟨congrArg some hq4, dpE hd23 1 Z Z, Zt⟩ (Zp Z (Zx (R := RSpan) Z Z Z d43 Tryd.underlying59 (Tryd.sizeOf69 _) hx2 fun p16 hp16 => ⟨BX.refl _ _, ⟨_, Z, hp16⟩⟩))
      ·
       intro w32 D hS24 hd24
       have d45 : PA RSpan M2 x2 (D 2) w32 := dpA hd24 2 Z
       obtain ⟨p17, e8, ha7⟩ := d45
       exact Zs (E' := [(25, (.pointer (some p17)))]) ⟨congrArg some e8, Zt⟩ (Zp Z (Zf Z Z Tryd.underlying69 Z (Tryd.sizeOf3 _) ⟨BX.refl _ _, ⟨_, Z, (ha7.fld fld_Span_Lo)⟩⟩))
      ·
       intro w33 D hS25 hd25
       have d46 : PA RInt M2 x2.Lo (D 3) w33 := dpA hd25 3 Z
       obtain ⟨p18, e9, ha8⟩ := d46
       refine Zs (E' := [(26, (.pointer (some p18)))]) ⟨congrArg some e9, Zt⟩ (Zp Z (Zl (R := RInt) Z Z ha8 (Tryd.sizeOf3 _) (Tryd.isAgg3 _) fun v19 hv19 => ?_))
       obtain rfl := Zi hv19
       exact Zb
      ·
       intro w34 D hS26 hd26
       have hl35 := Le.no M2 hS26
       exact Zs (E' := [(0, v0p)]) ⟨Z, Zt⟩ (Zp Z (Zm Z Z ⟨BX.refl _ _, (VRep.mono (lz1.trans hl35) h0)⟩))
      · exact fun w35 D hS27 hd27 => Zs (E' := [(6, (Zv k1))]) ⟨Z, Zt⟩ (Zp Z (Zm Z Z Zb))
      ·
       intro w36 D hS28 hd28
       have d47 : PV (RSlice RSpan) M2 a_list (D 5) w36 := dpA hd28 5 Z
       generalize hq5 : (D 5) = v20 at d47
       exact Zs (E' := [(28, v20), (29, (Zv k1))]) ⟨congrArg some hq5, dpE hd28 6 Z Z, Zt⟩ (Zp Z (Zx (R := RSpan) Z Z Z d47 Tryd.underlying59 (Tryd.sizeOf69 _) hx2 fun p19 hp19 => ⟨BX.refl _ _, ⟨_, Z, hp19⟩⟩))
      ·
       intro w37 D hS29 hd29
       have d49 : PA RSpan M2 x2 (D 7) w37 := dpA hd29 7 Z
       obtain ⟨p20, e10, ha9⟩ := d49
       exact Zs (E' := [(30, (.pointer (some p20)))]) ⟨congrArg some e10, Zt⟩ (Zp Z (Zf Z Z Tryd.underlying69 Z (Tryd.sizeOf3 _) ⟨BX.refl _ _, ⟨_, Z, (ha9.fld fld_Span_Hi)⟩⟩))
      ·
       intro w38 D hS30 hd30
       have d50 : PA RInt M2 x2.Hi (D 8) w38 := dpA hd30 8 Z
       obtain ⟨p21, e11, ha10⟩ := d50
       refine Zs (E' := [(31, (.pointer (some p21)))]) ⟨congrArg some e11, Zt⟩ (Zp Z (Zl (R := RInt) Z Z ha10 (Tryd.sizeOf3 _) (Tryd.isAgg3 _) fun v21 hv21 => ?_))
       obtain rfl := Zi hv21
       exact Zb
      ·
       intro w39 D hS31 hd31
       have hl40 := Le.no M2 hS31
       have hC40 := hC3.no hS31
       refine Zs (E' := [(27, (Zv x2.Lo)), (32, (Zv x2.Hi))]) ⟨dpE hd31 4 Z Z, dpE hd31 9 Z Z, Zt⟩ (Zp Z (Zk Z Z Tryd.call76 (w_spec_l1In (hG.mono (lz1.trans hl40)) hC40.old hx3) fun v22 w40 hv22 => ?_))
       obtain ⟨hv22, hb9⟩ := hv22
       obtain rfl := vbool_eq hv22
       exact ⟨hb9, Z⟩
      · exact fun w41 D hS32 hd32 => Zs (E' := [(33, (.bool false))]) ⟨dpE hd32 10 Z Z, Zt⟩ (Zp Z (ow_not Z Z Zb))
      · exact fun w42 D hS33 hd33 => Zs (E' := [(34, (.bool true))]) ⟨dpE hd33 11 Z Z, Zt⟩ (Zp Z (Zm Z Z Zb))
      · exact fun w43 D hS34 hd34 => Zs (E' := [(35, (.bool true)), (0, v0p)]) ⟨dpE hd34 12 Z Z, Z, Zt⟩ (dg_off Z Z Z Z Zb)
      · exact fun w44 D hS35 hd35 => Zs (E' := [(35, (.bool true)), (6, (Zv k1))]) ⟨dpE hd35 12 Z Z, Z, Zt⟩ (dg_off Z Z Z Z Zb)
      · exact fun w45 D hS36 hd36 => Zs (E' := [(36, undef), (37, undef), (35, (.bool true))]) ⟨dpE hd36 13 Z Z, dpE hd36 14 Z Z, dpE hd36 12 Z Z, Zt⟩ (dg_off Z Z Z Z Zb)
      · exact fun w46 D hS37 hd37 => Zs (E' := [(38, undef), (35, (.bool true))]) ⟨dpE hd37 15 Z Z, dpE hd37 12 Z Z, Zt⟩ (dg_off Z Z Z Z Zb)
      · exact fun w47 D hS38 hd38 => Zs (E' := [(39, undef), (35, (.bool true))]) ⟨dpE hd38 16 Z Z, dpE hd38 12 Z Z, Zt⟩ (dg_off Z Z Z Z Zb)
      · exact fun w48 D hS39 hd39 => Zs (E' := [(35, (.bool true)), (1, (Zv a_top))]) ⟨dpE hd39 12 Z Z, Z, Zt⟩ (dg_off Z Z Z Z Zb)
      ·
       intro w49 D hS40 hd40
       have hC50 := hC3.no hS40
       refine lw_sub (E' := [(35, (.bool true)), (40, undef), (41, undef), (0, v0p), (1, (Zv a_top)), (5, v2), (6, (Zv k1))]) ⟨dpE hd40 12 Z Z, dpE hd40 17 Z Z, dpE hd40 18 Z Z, Z, Z, Z, Z, Zt⟩ (lw_off Z Z Z Z Z Z (lw_off Z Z Z Z Z Z (Zo Z Z Z (ow_pickT Z Z Z (Zn (Ze (cw_true Z (cw_seq (Zr (Zo Z Z Z (ow_buildSlice0 (R := RSpan) (e := 69) Z (by kernel_rfl) hC50 fun p22 w50 M5 hr50 hb10 hl51 hC51 hM3 hat3 => Zo Z Z Z (Za Z Z (Zn (Ze (Zy (Zh (ew_blockR (Zh (Zh (ew_blockR (ew_brkR (Zh ?_))))))))))))))))))))))
       have e12 := hR1 _ (sj hb3).symm
       subst e12
       obtain rfl := sj h
       exact ew_ret (res1 Z (.tmp Z)) ⟨_, Z, ⟨M5, hr50, hC51⟩, hC51.bx⟩
    ·
     obtain rfl := hbb2.trans hc3
     exact Zu Z (cw_exit (ew_thenX (ew_thenX (ew_blockX (ew_brk (y1, k1) hb3 fun a ha => ⟨M2, v2, (ha.sub ⟨Z, Z, Z, Z, Zt⟩), hl3, hC3, hw1⟩)))))
   ·
    rintro ⟨y2, k2⟩ a w51 hlr2 ⟨M6, v23, hF2, hl52, hC52, hw3⟩
    subst hlr2
    refine ew_at (E := [(0, v0p), (1, (Zv a_top)), (5, v23), (6, (Zv k2))]) hF2 (Ze (cw_seq (Zr (Zo Z Z Z (Zm Z Z (Zo Z Z Z (Za Z Z (Zn (Ze (Zy ?_))))))))))
    obtain rfl := sj h
    exact ew_ret (res1 Z (.tmp Z)) ⟨_, Z, ⟨M6, hw3, hC52⟩, hC52.bx⟩
 ·
  subst hc1
  refine lw_off Z Z Z Z Z Z (lw_off Z Z Z Z Z Z (lw_off Z Z Z Z Z Z (Zo Z Z Z (ow_pickT Z Z Z (Zn (Ze (cw_true Z (cw_seq (Zr (Zo Z Z Z (Zm Z Z (Zo Z Z Z (Za Z Z (Zn (Ze (Zy (Zh ?_)))))))))))))))))
  obtain rfl := sj h
  exact ew_ret (res1 Z (.tmp Z)) ⟨_, Z, ⟨M1, hr2, hC2⟩, hC2.bx⟩

theorem w_spec_SpansOf {w : World} {M : Nat → Prop} (hG : ARep (RArr 4 RShape) w M shapes ⟨0, 0, none⟩) (hO : ∀ b, M b → b < w.heap.size) {v0p : Value} {a_list : List Span} (h0 : VRep (RSlice RSpan) w M a_list v0p) {a_top : Int} {r : (List Span)} (h : F.spec_SpansOf a_list a_top = some r) :
  Calls Tryd.prog 91 [v0p, (.int .i64 a_top)].toArray w fun e w' => ∃ v, e = .returned v ∧ VRep (RSlice RSpan) w' M r v ∧ BX No w w' := by
 refine Calls.mono (wo_spec_SpansOf hG hO h0 h) fun e w1 hz => ?_
 obtain ⟨v, e1, ⟨M1, hr, hc⟩, hb⟩ := hz
 exact ⟨v, e1, hr.freezeBack hc hO, hb⟩

theorem w_spec_l20Span {w : World} {M : Nat → Prop} (hG : ARep (RArr 4 RShape) w M shapes ⟨0, 0, none⟩) (hO : ∀ b, M b → b < w.heap.size) {g : Nat} {Ax : Option Addr} {cx : Nat} {a_xs : List Int} {a_pos : Int} (hxs : VRep (RSlice RU8) w M a_xs (.slice Ax a_xs.length cx)) (hown : Own w g 97 #[.slice Ax a_xs.length cx, .int .i64 a_pos]) (hgM : M g) {a_top : Int} {a_n : Int} {r : Span × Int} (h : F.spec_l20Span a_xs a_pos a_top a_n = some r) :
  Calls Tryd.prog 93 [(.pointer (some ⟨g, 0, none⟩)), (.int .i64 a_top), (.int .i64 a_n)].toArray w fun e w' => ∃ v, e = .returned v ∧ (VRep RSpan w' M r.1 v ∧ Own w' g 97 #[.slice Ax a_xs.length cx, .int .i64 r.2]) ∧ BX (One g) w w' := by
 have hX : ∀ b, (One g) b → M b := fun b e => e ▸ hgM
 have hC : Cx (One g) w M w M := Cx.start hO hX
 refine walk (N := 68) Tryd.func93 Z Tryd.ntmps93 Z (cw_seq (Zr (Zo Z Z Z (ow_alloc Z (Tryd.zeroValue69 _) hC fun g1 w1 hg1 hg2 ho1 hb1 hl1 hC1 => ?_))))
 have hn1 := Nat.ne_of_lt (Nat.lt_of_lt_of_le hown.lt hg1)
 have ho2 := hown.no hb1
 have hm1 : (Add g1 M) g := .inr hgM
 have hm2 : (Add g1 M) g1 := .inl Z
 refine Zn (Ze (cw_seq (Zr (Zo Z Z Z (Zm Z Z (Zo Z Z Z (Zm Z Z (Zo Z Z Z (ow_add Z Z Z (Zo Z Z Z (ow_min Z Z Z ?_)))))))))))
 replace h := bind_some h
 obtain ⟨x1, hx1, h⟩ := h
 refine Zo Z Z Z (Zk Z Z Tryd.call63 (w_spec_l20Rd_pick (hG.mono hl1) hC1.old (VRep.mono hl1 hxs) ho2 hm1 hx1) fun v1 w2 hv1 => ?_)
 obtain ⟨⟨hv1, ho3⟩, hb2⟩ := hv1
 have hl2 := Le.of_bx (Add g1 M) hb2 (fun b e => (by rw [show b = g from e]; exact hm1))
 have hC2 := hC1.go hb2 (fun b e => Or.inr e)
 have ho4 := ho1.go hb2 (fun e => hn1 e.symm)
 obtain rfl := Zi hv1
 refine Zo Z Z Z (ow_build (v := .agg #[(Zv x1.1), (Zv 0)]) Z Z (by kernel_rfl) (Zo Z Z Z (ow_alloc Z (Tryd.zeroValue69 _) hC2 fun g2 w3 hg3 hg4 ho5 hb3 hl3 hC3 => ?_)))
 have hn2 := Nat.ne_of_lt (Nat.lt_of_lt_of_le ho3.lt hg3)
 have ho6 := ho3.no hb3
 have hm3 : (Add g2 (Add g1 M)) g := .inr hm1
 have hn3 := Nat.ne_of_lt (Nat.lt_of_lt_of_le ho4.lt hg3)
 have ho7 := ho4.no hb3
 have hm4 : (Add g2 (Add g1 M)) g1 := .inr hm2
 have hm5 : (Add g2 (Add g1 M)) g2 := .inl Z
 refine lw_op0 Z Z (ow_store (X := (One g)) (us := [(Zv x1.1), (Zv 0)]) (cs' := #[(Zv x1.1), (Zv 0)]) Z Z Z Z ho5 (Tryd.sizeOf69 _) Z Z Z Z hm5 (.inl hg4) Z hC3 fun w4 ho8 hb4 hl4 hC4 => ?_)
 have ho9 := ho6.go hb4 (fun e => hn2 e)
 have ho10 := ho7.go hb4 (fun e => hn3 e)
 refine Zn (Ze (cw_seq (cw_seq (Zr (Zo Z Z Z (Zm Z Z (Zo Z Z Z (ow_gtr Z Z Z fun bb1 hbb1 => Zo Z Z Z (Zm Z Z ?_)))))))))
 replace h := Zc h
 rcases h with ⟨hc1, h⟩ | ⟨hc1, h⟩
 ·
  obtain rfl := hbb1.trans hc1
  refine lw_on Z Z Z Z Z Z (Zm Z Z ?_)
  have lz1 := (((hl1.trans hl2).trans hl3).trans hl4)
  replace h := bind_some h
  obtain ⟨x2, hx2, h⟩ := h
  refine lw_on Z Z Z Z Z Z (Zk Z Z Tryd.call63 (w_spec_l20Rd_pick (hG.mono lz1) hC4.old (VRep.mono lz1 hxs) ho9 hm3 hx2) fun v2 w5 hv2 => ?_)
  obtain ⟨⟨hv2, ho11⟩, hb5⟩ := hv2
  have hl5 := Le.of_bx (Add g2 (Add g1 M)) hb5 (fun b e => (by rw [show b = g from e]; exact hm3))
  have hC5 := hC4.go hb5 (fun b e => Or.inr e)
  have ho12 := ho10.go hb5 (fun e => hn1 e.symm)
  have ho13 := ho8.go hb5 (fun e => hn2 e.symm)
  obtain rfl := Zi hv2
  refine lw_on Z Z Z Z Z Z (ow_eqlI Z Z Z fun bb2 hbb2 => Zo Z Z Z (ow_pickT Z Z Z (Zn (Ze ?_))))
  replace h := Zc h
  rcases h with ⟨hc2, h⟩ | ⟨hc2, h⟩
  ·
   obtain rfl := hbb2.trans hc2
   refine cw_true Z ?_
   replace h := bind_some h
   obtain ⟨x3, hx3, h⟩ := h
   have lz2 := (lz1.trans hl5)
   refine cw_sub (E' := [(0, (Zw g 0)), (1, (Zv a_top)), (2, (Zv a_n)), (6, (Zw g1 0)), (7, (Zw g2 0))]) ⟨Z, Z, Z, Z, Z, Zt⟩ (cw_drawC (g := g) (T := 97) 7 1 [none, none, none, none, none, some 0, none] [#[(.slice Ax a_xs.length cx), (Zv x2.2)], #[(.slice Ax a_xs.length cx), (Zv x3.2)]] [PEq (Zv a_top), PEq (Zw g2 0), PEq (Zv x1.1), PEq (Zv (W (x1.1 * 256))), PEq (Zw g 0), PEq (Zv x3.1), PEq (Zv (W ((W (x1.1 * 256)) + x3.1)))] (by kernel_rfl) Z (by kernel_rfl) (by kernel_rfl) ho11 ⟨(PEq.monoY hm3 _), (PEq.monoY hm3 _), (PEq.monoY hm3 _), (PEq.monoY hm3 _), (PEq.monoY hm3 _), (PEq.monoY hm3 _), (PEq.monoY hm3 _), Zt⟩ ⟨?_, ?_, ?_, ?_, ?_, ?_, ?_, Zt⟩ ?_)
   · exact fun w7 D hS1 hd1 => Zs (E' := [(1, (Zv a_top))]) ⟨Z, Zt⟩ (Zp Z (Zm Z Z Zb))
   · exact fun w8 D hS2 hd2 => Zs (E' := [(7, (Zw g2 0))]) ⟨Z, Zt⟩ (Zp Z (Zf Z Z Tryd.underlying69 Z (Tryd.sizeOf3 _) Zb))
   ·
    intro w9 D hS3 hd3
    have ho22 := ho13.go hS3 (fun e => hn2 e.symm)
    exact Zs (E' := [(22, (Zw g2 0))]) ⟨dpE hd3 1 Z Z, Zt⟩ (Zp Z (ow_loadOwn1 Z Z Z ho22 (Tryd.isAgg3 _) Z Zb))
   · exact fun w10 D hS4 hd4 => Zs (E' := [(23, (Zv x1.1))]) ⟨dpE hd4 2 Z Z, Zt⟩ (Zp Z (ow_mul Z Z Z Zb))
   · exact fun w11 D hS5 hd5 => Zs (E' := [(0, (Zw g 0))]) ⟨Z, Zt⟩ (Zp Z (Zm Z Z Zb))
   ·
    intro w12 D hS6 hd6
    obtain ⟨hS6, ho27⟩ := hS6
    have ho27 : Own w12 g 97 #[(.slice Ax a_xs.length cx), (Zv x2.2)] := ho27
    have hl12 := leY hm3 hS6
    have hC12 := hC5.go hS6 (fun b e => Or.inr e)
    refine Zs (E' := [(25, (Zw g 0))]) ⟨dpE hd6 4 Z Z, Zt⟩ (Zp Z (Zk Z Z Tryd.call63 (w_spec_l20Rd_pick (hG.mono (lz2.trans hl12)) hC12.old (VRep.mono (lz2.trans hl12) hxs) ho27 hm3 hx3) fun v4 w13 hv4 => ?_))
    obtain ⟨⟨hv4, ho30⟩, hb7⟩ := hv4
    obtain rfl := Zi hv4
    exact ⟨⟨⟨hS6.trans hb7, ho30⟩, hb7⟩, Z⟩
   · exact fun w14 D hS7 hd7 => Zs (E' := [(24, (Zv (W (x1.1 * 256)))), (26, (Zv x3.1))]) ⟨dpE hd7 3 Z Z, dpE hd7 5 Z Z, Zt⟩ (Zp Z (ow_add Z Z Z Zb))
   ·
    intro w15 D hS8 hd8
    obtain ⟨hS8, ho35⟩ := hS8
    have ho35 : Own w15 g 97 #[(.slice Ax a_xs.length cx), (Zv x3.2)] := ho35
    have hl15 := leY hm3 hS8
    have hC15 := hC5.go hS8 (fun b e => Or.inr e)
    have ho36 := ho12.go hS8 (fun e => hn1 e.symm)
    have ho37 := ho13.go hS8 (fun e => hn2 e.symm)
    refine lw_sub (E' := [(21, (Zv a_top)), (27, (Zv (W ((W (x1.1 * 256)) + x3.1)))), (0, (Zw g 0)), (1, (Zv a_top)), (2, (Zv a_n)), (6, (Zw g1 0)), (7, (Zw g2 0))]) ⟨dpE hd8 0 Z Z, dpE hd8 6 Z Z, Z, Z, Z, Z, Z, Zt⟩ (Zo Z Z Z (ow_min Z Z Z (Zo Z Z Z (Zf Z Z Tryd.underlying69 Z (Tryd.sizeOf3 _) (lw_op0 Z Z (ow_store (X := (One g)) (us := [(Zv (imin a_top (W ((W (x1.1 * 256)) + x3.1))))]) (cs' := #[(Zv (imin a_top (W ((W (x1.1 * 256)) + x3.1)))), (Zv 0)]) Z Z Z Z ho37 (Tryd.sizeOf3 _) Z Z Z Z hm5 (.inl hg4) Z hC15 fun w16 ho38 hb8 hl16 hC16 => ?_))))))
    have ho39 := ho35.go hb8 (fun e => hn2 e)
    have ho40 := ho36.go hb8 (fun e => hn3 e)
    refine Zn (Ze (cw_seq ?_))
    replace h := bind_some h
    obtain ⟨x4, hx4, h⟩ := h
    replace h := bind_some h
    obtain ⟨x5, hx5, h⟩ := h
    replace h := bind_some h
    obtain ⟨x6, hx6, h⟩ := h
    replace h := bind_some h
    obtain ⟨x7, hx7, h⟩ := h
    have lz4 := ((lz2.trans hl15).trans hl16)
    refine cw_sub (E' := [(0, (Zw g 0)), (1, (Zv a_top)), (2, (Zv a_n)), (6, (Zw g1 0)), (7, (Zw g2 0))]) ⟨Z, Z, Z, Z, Z, Zt⟩ (cw_drawC (g := g) (T := 97) 13 3 [none, none, none, none, some 0, none, some 1, none, none, some 2, none, none, none] [#[(.slice Ax a_xs.length cx), (Zv x3.2)], #[(.slice Ax a_xs.length cx), (Zv x4.2)], #[(.slice Ax a_xs.length cx), (Zv x5.2)], #[(.slice Ax a_xs.length cx), (Zv x6.2)]] [PEq (Zv a_top), PEq (Zw g2 0), PEq (Zv (imin a_top (W ((W (x1.1 * 256)) + x3.1)))), PEq (Zw g 0), PEq (Zv x4.1), PEq (Zw g 0), PEq (Zv x5.1), PV (RSlice RInt) (Add g2 (Add g1 M)) [0, x4.1, x5.1, 4096], PEq (Zw g 0), PEq (Zv x6.1), PA RInt (Add g2 (Add g1 M)) x7, PEq (Zv x7), PEq (Zv (W ((imin a_top (W ((W (x1.1 * 256)) + x3.1))) + x7)))] (by kernel_rfl) Z (by kernel_rfl) (by kernel_rfl) ho39 ⟨(PEq.monoY hm3 _), (PEq.monoY hm3 _), (PEq.monoY hm3 _), (PEq.monoY hm3 _), (PEq.monoY hm3 _), (PEq.monoY hm3 _), (PEq.monoY hm3 _), (PV.monoY hm3 _ _), (PEq.monoY hm3 _), (PEq.monoY hm3 _), (PA.monoY hm3 _ _), (PEq.monoY hm3 _), (PEq.monoY hm3 _), Zt⟩ ⟨?_, ?_, ?_, ?_, ?_, ?_, ?_, ?_, ?_, ?_, ?_, ?_, ?_, Zt⟩ ?_)
    · exact fun w21 D hS9 hd9 => Zs (E' := [(1, (Zv a_top))]) ⟨Z, Zt⟩ (Zp Z (Zm Z Z Zb))
    · exact fun w22 D hS10 hd10 => Zs (E' := [(7, (Zw g2 0))]) ⟨Z, Zt⟩ (Zp Z (Zf Z Z Tryd.underlying69 Z (Tryd.sizeOf3 _) Zb))
    ·
     intro w23 D hS11 hd11
     have ho58 := ho38.go hS11 (fun e => hn2 e.symm)
     exact Zs (E' := [(31, (Zw g2 0))]) ⟨dpE hd11 1 Z Z, Zt⟩ (Zp Z (ow_loadOwn1 Z Z Z ho58 (Tryd.isAgg3 _) Z Zb))
    · exact fun w24 D hS12 hd12 => Zs (E' := [(0, (Zw g 0))]) ⟨Z, Zt⟩ (Zp Z (Zm Z Z Zb))
    ·
     intro w25 D hS13 hd13
     obtain ⟨hS13, ho61⟩ := hS13
     have ho61 : Own w25 g 97 #[(.slice Ax a_xs.length cx), (Zv x3.2)] := ho61
     have hl25 := leY hm3 hS13
     have hC25 := hC16.go hS13 (fun b e => Or.inr e)
     refine Zs (E' := [(33, (Zw g 0))]) ⟨dpE hd13 3 Z Z, Zt⟩ (Zp Z (Zk Z Z Tryd.call63 (w_spec_l20Rd_pick (hG.mono (lz4.trans hl25)) hC25.old (VRep.mono (lz4.trans hl25) hxs) ho61 hm3 hx4) fun v9 w26 hv9 => ?_))
     obtain ⟨⟨hv9, ho64⟩, hb13⟩ := hv9
     obtain rfl := Zi hv9
     exact ⟨⟨⟨hS13.trans hb13, ho64⟩, hb13⟩, Z⟩
    · exact fun w27 D hS14 hd14 => Zs (E' := [(0, (Zw g 0))]) ⟨Z, Zt⟩ (Zp Z (Zm Z Z Zb))
    ·
     intro w28 D hS15 hd15
     obtain ⟨hS15, ho69⟩ := hS15
     have ho69 : Own w28 g 97 #[(.slice Ax a_xs.length cx), (Zv x4.2)] := ho69
     have hl28 := leY hm3 hS15
     have hC28 := hC16.go hS15 (fun b e => Or.inr e)
     refine Zs (E' := [(35, (Zw g 0))]) ⟨dpE hd15 5 Z Z, Zt⟩ (Zp Z (Zk Z Z Tryd.call63 (w_spec_l20Rd_pick (hG.mono (lz4.trans hl28)) hC28.old (VRep.mono (lz4.trans hl28) hxs) ho69 hm3 hx5) fun v10 w29 hv10 => ?_))
     obtain ⟨⟨hv10, ho72⟩, hb14⟩ := hv10
     obtain rfl := Zi hv10
     exact ⟨⟨⟨hS15.trans hb14, ho72⟩, hb14⟩, Z⟩
    ·
     intro w30 D hS16 hd16
     have hC30 := hC16.go hS16 (fun b e => Or.inr e)
     exact Zs (E' := [(34, (Zv x4.1)), (36, (Zv x5.1))]) ⟨dpE hd16 4 Z Z, dpE hd16 6 Z Z, Zt⟩ (Zp Z (ow_buildSlice (R := RInt) (xs := [0, x4.1, x5.1, 4096]) (cs := #[(Zv 0), (Zv x4.1), (Zv x5.1), (Zv 4096)]) (e := 3) Z Z (by kernel_rfl) Z Z ⟨_, _, Z, (vint _).cells, _, _, Z, (vint _).cells, _, _, Z, (vint _).cells, _, _, Z, (vint _).cells, Z⟩ hC30 fun p3 w31 hw3 hb15 hl31 hC31 => ⟨hb15, hw3⟩))
    · exact fun w32 D hS17 hd17 => Zs (E' := [(0, (Zw g 0))]) ⟨Z, Zt⟩ (Zp Z (Zm Z Z Zb))
    ·
     intro w33 D hS18 hd18
     obtain ⟨hS18, ho81⟩ := hS18
     have ho81 : Own w33 g 97 #[(.slice Ax a_xs.length cx), (Zv x5.2)] := ho81
     have hl33 := leY hm3 hS18
     have hC33 := hC16.go hS18 (fun b e => Or.inr e)
     refine Zs (E' := [(38, (Zw g 0))]) ⟨dpE hd18 8 Z Z, Zt⟩ (Zp Z (Zk Z Z Tryd.call63 (w_spec_l20Rd_pick (hG.mono (lz4.trans hl33)) hC33.old (VRep.mono (lz4.trans hl33) hxs) ho81 hm3 hx6) fun v11 w34 hv11 => ?_))
     obtain ⟨⟨hv11, ho84⟩, hb16⟩ := hv11
     obtain rfl := Zi hv11
     exact ⟨⟨⟨hS18.trans hb16, ho84⟩, hb16⟩, Z⟩
    ·
     intro w35 D hS19 hd19
     have d21 : PV (RSlice RInt) (Add g2 (Add g1 M)) [0, x4.1, x5.1, 4096] (D 7) w35 := dpA hd19 7 Z
     generalize hq1 : (D 7) = v12 at d21
     exact Zs (E' := [(37, v12), (39, (Zv x6.1))]) ⟨congrArg some hq1, dpE hd19 9 Z Z, Zt⟩ (Zp Z (Zx (R := RInt) Z Z Z d21 Tryd.underlying70 (Tryd.sizeOf3 _) hx7 fun p4 hp4 => ⟨BX.refl _ _, ⟨_, Z, hp4⟩⟩))
    ·
     intro w36 D hS20 hd20
     have d23 : PA RInt (Add g2 (Add g1 M)) x7 (D 10) w36 := dpA hd20 10 Z
     obtain ⟨p5, e1, ha1⟩ := d23
     refine Zs (E' := [(40, (.pointer (some p5)))]) ⟨congrArg some e1, Zt⟩ (Zp Z (Zl (R := RInt) Z Z ha1 (Tryd.sizeOf3 _) (Tryd.isAgg3 _) fun v13 hv13 => ?_))
     obtain rfl := Zi hv13
     exact Zb
    · exact fun w37 D hS21 hd21 => Zs (E' := [(32, (Zv (imin a_top (W ((W (x1.1 * 256)) + x3.1))))), (41, (Zv x7))]) ⟨dpE hd21 2 Z Z, dpE hd21 11 Z Z, Zt⟩ (Zp Z (ow_add Z Z Z Zb))
    ·
     intro w38 D hS22 hd22
     obtain ⟨hS22, ho93⟩ := hS22
     have ho93 : Own w38 g 97 #[(.slice Ax a_xs.length cx), (Zv x6.2)] := ho93
     have hl38 := leY hm3 hS22
     have hC38 := hC16.go hS22 (fun b e => Or.inr e)
     have ho94 := ho40.go hS22 (fun e => hn1 e.symm)
     have ho95 := ho38.go hS22 (fun e => hn2 e.symm)
     refine lw_sub (E' := [(30, (Zv a_top)), (42, (Zv (W ((imin a_top (W ((W (x1.1 * 256)) + x3.1))) + x7)))), (0, (Zw g 0)), (1, (Zv a_top)), (2, (Zv a_n)), (6, (Zw g1 0)), (7, (Zw g2 0))]) ⟨dpE hd22 0 Z Z, dpE hd22 12 Z Z, Z, Z, Z, Z, Z, Zt⟩ (Zo Z Z Z (ow_min Z Z Z (Zo Z Z Z (Zf Z Z Tryd.underlying69 Z (Tryd.sizeOf3 _) (lw_op0 Z Z (ow_store (X := (One g)) (us := [(Zv (imin a_top (W ((imin a_top (W ((W (x1.1 * 256)) + x3.1))) + x7))))]) (cs' := #[(Zv (imin a_top (W ((W (x1.1 * 256)) + x3.1)))), (Zv (imin a_top (W ((imin a_top (W ((W (x1.1 * 256)) + x3.1))) + x7))))]) Z Z Z Z ho95 (Tryd.sizeOf3 _) Z Z Z Z hm5 (.inl hg4) Z hC38 fun w39 ho96 hb17 hl39 hC39 => ?_))))))
     have ho97 := ho93.go hb17 (fun e => hn2 e)
     have ho98 := ho94.go hb17 (fun e => hn3 e)
     refine Zn (Ze (cw_seq (cw_seq (Zr (Zo Z Z Z (Zm Z Z (Zo Z Z Z (Zm Z Z ?_))))))))
     have lz5 := ((lz4.trans hl38).trans hl39)
     replace h := bind_some h
     obtain ⟨x8, hx8, h⟩ := h
     refine Zo Z Z Z (Zk Z Z Tryd.call83 (w_spec_l20Rd_odd (hG.mono lz5) hC39.old (VRep.mono lz5 hxs) ho97 hm3 hx8) fun v14 w40 hv14 => ?_)
     obtain ⟨⟨hv14, ho99⟩, hb18⟩ := hv14
     have hl40 := Le.of_bx (Add g2 (Add g1 M)) hb18 (fun b e => (by rw [show b = g from e]; exact hm3))
     have hC40 := hC39.go hb18 (fun b e => Or.inr e)
     have ho100 := ho98.go hb18 (fun e => hn1 e.symm)
     have ho101 := ho96.go hb18 (fun e => hn2 e.symm)
     obtain ⟨bb3, hbb3, rfl⟩ := vbool_ex hv14
     refine Zn (Ze ?_)
     replace h := Zc h
     rcases h with ⟨hc3, h⟩ | ⟨hc3, h⟩
     ·
      obtain rfl := hbb3.trans hc3
      refine cw_true Z (cw_seq ?_)
      replace h := bind_some h
      obtain ⟨x9, hx9, h⟩ := h
      have lz6 := (lz5.trans hl40)
      refine cw_sub (E' := [(0, (Zw g 0)), (1, (Zv a_top)), (6, (Zw g1 0)), (7, (Zw g2 0))]) ⟨Z, Z, Z, Z, Zt⟩ (cw_drawC (g := g) (T := 97) 17 1 [none, none, none, none, none, none, none, none, none, none, none, none, none, none, none, none, some 0] [#[(.slice Ax a_xs.length cx), (Zv x8.2)], #[(.slice Ax a_xs.length cx), (Zv x9.2)]] [PEq (Zw g2 1), PEq (Zv (imin a_top (W ((imin a_top (W ((W (x1.1 * 256)) + x3.1))) + x7)))), PEq (Zv (W ((imin a_top (W ((imin a_top (W ((W (x1.1 * 256)) + x3.1))) + x7))) + 1))), PEq (Zw g2 1), PEq (Zv (imin a_top (W ((imin a_top (W ((W (x1.1 * 256)) + x3.1))) + x7)))), PV RSpan (Add g2 (Add g1 M)) ({ Lo := (W ((imin a_top (W ((imin a_top (W ((W (x1.1 * 256)) + x3.1))) + x7))) + 1)), Hi := (imin a_top (W ((imin a_top (W ((W (x1.1 * 256)) + x3.1))) + x7))) } : Span), PEq (Zw g2 1), PEq (Zv (imin a_top (W ((imin a_top (W ((W (x1.1 * 256)) + x3.1))) + x7)))), PV RSpan (Add g2 (Add g1 M)) ({ Lo := (-1), Hi := (imin a_top (W ((imin a_top (W ((W (x1.1 * 256)) + x3.1))) + x7))) } : Span), PEq (Zw g2 0), PEq (Zv (imin a_top (W ((W (x1.1 * 256)) + x3.1)))), PEq (Zv a_top), PEq (Zv (W (a_top + 1))), PV RSpan (Add g2 (Add g1 M)) ({ Lo := (imin a_top (W ((W (x1.1 * 256)) + x3.1))), Hi := (W (a_top + 1)) } : Span), PV (RSlice RSpan) (Add g2 (Add g1 M)) [({ Lo := (W ((imin a_top (W ((imin a_top (W ((W (x1.1 * 256)) + x3.1))) + x7))) + 1)), Hi := (imin a_top (W ((imin a_top (W ((W (x1.1 * 256)) + x3.1))) + x7))) } : Span), ({ Lo := (-1), Hi := (imin a_top (W ((imin a_top (W ((W (x1.1 * 256)) + x3.1))) + x7))) } : Span), ({ Lo := (imin a_top (W ((W (x1.1 * 256)) + x3.1))), Hi := (W (a_top + 1)) } : Span)], PEq (Zw g 0), PEq (Zv x9.1)] (by kernel_rfl) Z (by kernel_rfl) (by kernel_rfl) ho99 ⟨(PEq.monoY hm3 _), (PEq.monoY hm3 _), (PEq.monoY hm3 _), (PEq.monoY hm3 _), (PEq.monoY hm3 _), (PV.monoY hm3 _ _), (PEq.monoY hm3 _), (PEq.monoY hm3 _), (PV.monoY hm3 _ _), (PEq.monoY hm3 _), (PEq.monoY hm3 _), (PEq.monoY hm3 _), (PEq.monoY hm3 _), (PV.monoY hm3 _ _), (PV.monoY hm3 _ _), (PEq.monoY hm3 _), (PEq.monoY hm3 _), Zt⟩ ⟨?_, ?_, ?_, ?_, ?_, ?_, ?_, ?_, ?_, ?_, ?_, ?_, ?_, ?_, ?_, ?_, ?_, Zt⟩ ?_)
      · exact fun w43 D hS23 hd23 => Zs (E' := [(7, (Zw g2 0))]) ⟨Z, Zt⟩ (Zp Z (Zf Z Z Tryd.underlying69 Z (Tryd.sizeOf3 _) Zb))
      ·
       intro w44 D hS24 hd24
       have ho111 := ho101.go hS24 (fun e => hn2 e.symm)
       exact Zs (E' := [(48, (Zw g2 1))]) ⟨dpE hd24 0 Z Z, Zt⟩ (Zp Z (ow_loadOwn1 Z Z Z ho111 (Tryd.isAgg3 _) Z Zb))
      · exact fun w45 D hS25 hd25 => Zs (E' := [(49, (Zv (imin a_top (W ((imin a_top (W ((W (x1.1 * 256)) + x3.1))) + x7)))))]) ⟨dpE hd25 1 Z Z, Zt⟩ (Zp Z (ow_add Z Z Z Zb))
      · exact fun w46 D hS26 hd26 => Zs (E' := [(7, (Zw g2 0))]) ⟨Z, Zt⟩ (Zp Z (Zf Z Z Tryd.underlying69 Z (Tryd.sizeOf3 _) Zb))
      ·
       intro w47 D hS27 hd27
       have ho117 := ho101.go hS27 (fun e => hn2 e.symm)
       exact Zs (E' := [(51, (Zw g2 1))]) ⟨dpE hd27 3 Z Z, Zt⟩ (Zp Z (ow_loadOwn1 Z Z Z ho117 (Tryd.isAgg3 _) Z Zb))
      ·
       intro w48 D hS28 hd28
       refine Zs (E' := [(50, (Zv (W ((imin a_top (W ((imin a_top (W ((W (x1.1 * 256)) + x3.1))) + x7))) + 1)))), (52, (Zv (imin a_top (W ((imin a_top (W ((W (x1.1 * 256)) + x3.1))) + x7)))))]) ⟨dpE hd28 2 Z Z, dpE hd28 4 Z Z, Zt⟩ (Zp Z (ow_build (v := .agg #[(Zv (W ((imin a_top (W ((imin a_top (W ((W (x1.1 * 256)) + x3.1))) + x7))) + 1))), (Zv (imin a_top (W ((imin a_top (W ((W (x1.1 * 256)) + x3.1))) + x7))))]) Z Z (by kernel_rfl) ?_))
       have hw8 : VRep RSpan w48 (Add g2 (Add g1 M)) ({ Lo := (W ((imin a_top (W ((imin a_top (W ((W (x1.1 * 256)) + x3.1))) + x7))) + 1)), Hi := (imin a_top (W ((imin a_top (W ((W (x1.1 * 256)) + x3.1))) + x7))) } : Span) (.agg #[(Zv (W ((imin a_top (W ((imin a_top (W ((W (x1.1 * 256)) + x3.1))) + x7))) + 1))), (Zv (imin a_top (W ((imin a_top (W ((W (x1.1 * 256)) + x3.1))) + x7))))]) := shut_Span
       exact ⟨BX.refl _ _, hw8⟩
      · exact fun w49 D hS29 hd29 => Zs (E' := [(7, (Zw g2 0))]) ⟨Z, Zt⟩ (Zp Z (Zf Z Z Tryd.underlying69 Z (Tryd.sizeOf3 _) Zb))
      ·
       intro w50 D hS30 hd30
       have ho123 := ho101.go hS30 (fun e => hn2 e.symm)
       exact Zs (E' := [(54, (Zw g2 1))]) ⟨dpE hd30 6 Z Z, Zt⟩ (Zp Z (ow_loadOwn1 Z Z Z ho123 (Tryd.isAgg3 _) Z Zb))
      ·
       intro w51 D hS31 hd31
       refine Zs (E' := [(55, (Zv (imin a_top (W ((imin a_top (W ((W (x1.1 * 256)) + x3.1))) + x7)))))]) ⟨dpE hd31 7 Z Z, Zt⟩ (Zp Z (ow_build (v := .agg #[(Zv (-1)), (Zv (imin a_top (W ((imin a_top (W ((W (x1.1 * 256)) + x3.1))) + x7))))]) Z Z (by kernel_rfl) ?_))
       have hw9 : VRep RSpan w51 (Add g2 (Add g1 M)) ({ Lo := (-1), Hi := (imin a_top (W ((imin a_top (W ((W (x1.1 * 256)) + x3.1))) + x7))) } : Span) (.agg #[(Zv (-1)), (Zv (imin a_top (W ((imin a_top (W ((W (x1.1 * 256)) + x3.1))) + x7))))]) := shut_Span
       exact ⟨BX.refl _ _, hw9⟩
      · exact fun w52 D hS32 hd32 => Zs (E' := [(7, (Zw g2 0))]) ⟨Z, Zt⟩ (Zp Z (Zf Z Z Tryd.underlying69 Z (Tryd.sizeOf3 _) Zb))
      ·
       intro w53 D hS33 hd33
       have ho129 := ho101.go hS33 (fun e => hn2 e.symm)
       exact Zs (E' := [(57, (Zw g2 0))]) ⟨dpE hd33 9 Z Z, Zt⟩ (Zp Z (ow_loadOwn1 Z Z Z ho129 (Tryd.isAgg3 _) Z Zb))
      · exact fun w54 D hS34 hd34 => Zs (E' := [(1, (Zv a_top))]) ⟨Z, Zt⟩ (Zp Z (Zm Z Z Zb))
      · exact fun w55 D hS35 hd35 => Zs (E' := [(59, (Zv a_top))]) ⟨dpE hd35 11 Z Z, Zt⟩ (Zp Z (ow_add Z Z Z Zb))
      ·
       intro w56 D hS36 hd36
       refine Zs (E' := [(58, (Zv (imin a_top (W ((W (x1.1 * 256)) + x3.1))))), (60, (Zv (W (a_top + 1))))]) ⟨dpE hd36 10 Z Z, dpE hd36 12 Z Z, Zt⟩ (Zp Z (ow_build (v := .agg #[(Zv (imin a_top (W ((W (x1.1 * 256)) + x3.1)))), (Zv (W (a_top + 1)))]) Z Z (by kernel_rfl) ?_))
       have hw10 : VRep RSpan w56 (Add g2 (Add g1 M)) ({ Lo := (imin a_top (W ((W (x1.1 * 256)) + x3.1))), Hi := (W (a_top + 1)) } : Span) (.agg #[(Zv (imin a_top (W ((W (x1.1 * 256)) + x3.1)))), (Zv (W (a_top + 1)))]) := shut_Span
       exact ⟨BX.refl _ _, hw10⟩
      ·
       intro w57 D hS37 hd37
       have hC57 := hC40.go hS37 (fun b e => Or.inr e)
       have d50 : PV RSpan (Add g2 (Add g1 M)) ({ Lo := (W ((imin a_top (W ((imin a_top (W ((W (x1.1 * 256)) + x3.1))) + x7))) + 1)), Hi := (imin a_top (W ((imin a_top (W ((W (x1.1 * 256)) + x3.1))) + x7))) } : Span) (D 5) w57 := dpA hd37 5 Z
       have d51 : PV RSpan (Add g2 (Add g1 M)) ({ Lo := (-1), Hi := (imin a_top (W ((imin a_top (W ((W (x1.1 * 256)) + x3.1))) + x7))) } : Span) (D 8) w57 := dpA hd37 8 Z
       have d52 : PV RSpan (Add g2 (Add g1 M)) ({ Lo := (imin a_top (W ((W (x1.1 * 256)) + x3.1))), Hi := (W (a_top + 1)) } : Span) (D 13) w57 := dpA hd37 13 Z
       generalize hq2 : (D 5) = v16 at d50
       generalize hq3 : (D 8) = v17 at d51
       generalize hq4 : (D 13) = v18 at d52
       refine Zs (E' := [(53, v16), (56, v17), (61, v18)]) ⟨congrArg some hq2, congrArg some hq3, congrArg some hq4, Zt⟩ ?_
       obtain rfl := open_Span d50
       obtain rfl := open_Span d51
       obtain rfl := open_Span d52
       exact Zp Z (ow_buildSlice (R := RSpan) (xs := [({ Lo := (W ((imin a_top (W ((imin a_top (W ((W (x1.1 * 256)) + x3.1))) + x7))) + 1)), Hi := (imin a_top (W ((imin a_top (W ((W (x1.1 * 256)) + x3.1))) + x7))) } : Span), ({ Lo := (-1), Hi := (imin a_top (W ((imin a_top (W ((W (x1.1 * 256)) + x3.1))) + x7))) } : Span), ({ Lo := (imin a_top (W ((W (x1.1 * 256)) + x3.1))), Hi := (W (a_top + 1)) } : Span)]) (cs := #[(Zv ({ Lo := (W ((imin a_top (W ((imin a_top (W ((W (x1.1 * 256)) + x3.1))) + x7))) + 1)), Hi := (imin a_top (W ((imin a_top (W ((W (x1.1 * 256)) + x3.1))) + x7))) } : Span).Lo), (Zv ({ Lo := (W ((imin a_top (W ((imin a_top (W ((W (x1.1 * 256)) + x3.1))) + x7))) + 1)), Hi := (imin a_top (W ((imin a_top (W ((W (x1.1 * 256)) + x3.1))) + x7))) } : Span).Hi), (Zv ({ Lo := (-1), Hi := (imin a_top (W ((imin a_top (W ((W (x1.1 * 256)) + x3.1))) + x7))) } : Span).Lo), (Zv ({ Lo := (-1), Hi := (imin a_top (W ((imin a_top (W ((W (x1.1 * 256)) + x3.1))) + x7))) } : Span).Hi), (Zv ({ Lo := (imin a_top (W ((W (x1.1 * 256)) + x3.1))), Hi := (W (a_top + 1)) } : Span).Lo), (Zv ({ Lo := (imin a_top (W ((W (x1.1 * 256)) + x3.1))), Hi := (W (a_top + 1)) } : Span).Hi)]) (e := 69) Z Z (by kernel_rfl) Z Z ⟨_, _, Z, d50.cells, _, _, Z, d51.cells, _, _, Z, d52.cells, Z⟩ hC57 fun p7 w58 hw11 hb21 hl58 hC58 => ⟨hb21, hw11⟩)
      · exact fun w59 D hS38 hd38 => Zs (E' := [(0, (Zw g 0))]) ⟨Z, Zt⟩ (Zp Z (Zm Z Z Zb))
      ·
       intro w60 D hS39 hd39
       obtain ⟨hS39, ho142⟩ := hS39
       have ho142 : Own w60 g 97 #[(.slice Ax a_xs.length cx), (Zv x8.2)] := ho142
       have hl60 := leY hm3 hS39
       have hC60 := hC40.go hS39 (fun b e => Or.inr e)
       refine Zs (E' := [(63, (Zw g 0))]) ⟨dpE hd39 15 Z Z, Zt⟩ (Zp Z (Zk Z Z Tryd.call63 (w_spec_l20Rd_pick (hG.mono (lz6.trans hl60)) hC60.old (VRep.mono (lz6.trans hl60) hxs) ho142 hm3 hx9) fun v19 w61 hv19 => ?_))
       obtain ⟨⟨hv19, ho145⟩, hb22⟩ := hv19
       obtain rfl := Zi hv19
       exact ⟨⟨⟨hS39.trans hb22, ho145⟩, hb22⟩, Z⟩
      ·
       intro w62 D hS40 hd40
       have d68 : PV (RSlice RSpan) (Add g2 (Add g1 M)) [({ Lo := (W ((imin a_top (W ((imin a_top (W ((W (x1.1 * 256)) + x3.1))) + x7))) + 1)), Hi := (imin a_top (W ((imin a_top (W ((W (x1.1 * 256)) + x3.1))) + x7))) } : Span), ({ Lo := (-1), Hi := (imin a_top (W ((imin a_top (W ((W (x1.1 * 256)) + x3.1))) + x7))) } : Span), ({ Lo := (imin a_top (W ((W (x1.1 * 256)) + x3.1))), Hi := (W (a_top + 1)) } : Span)] (D 14) w62 := dpA hd40 14 Z
       obtain ⟨hS40, ho148⟩ := hS40
       have ho148 : Own w62 g 97 #[(.slice Ax a_xs.length cx), (Zv x9.2)] := ho148
       have hC62 := hC40.go hS40 (fun b e => Or.inr e)
       have ho149 := ho100.go hS40 (fun e => hn1 e.symm)
       generalize hq5 : (D 14) = v20 at d68
       refine lw_sub (E' := [(62, v20), (64, (Zv x9.1)), (0, (Zw g 0)), (1, (Zv a_top)), (6, (Zw g1 0)), (7, (Zw g2 0))]) ⟨congrArg some hq5, dpE hd40 16 Z Z, Z, Z, Z, Z, Zt⟩ ?_
       replace h := bind_some h
       obtain ⟨x10, hx10, h⟩ := h
       refine Zo Z Z Z (Zx (R := RSpan) Z Z Z d68 Tryd.underlying59 (Tryd.sizeOf69 _) hx10 fun p8 hp8 => Zo Z Z Z (Zl (R := RSpan) Z Z hp8 (Tryd.sizeOf69 _) (Tryd.isAgg69 _) fun v21 hv21 => ?_))
       obtain rfl := open_Span hv21
       refine lw_op0 Z Z (ow_store (X := (One g)) (us := [(Zv x10.Lo), (Zv x10.Hi)]) (cs' := #[(Zv x10.Lo), (Zv x10.Hi)]) Z Z Z Z ho149 (Tryd.sizeOf69 _) Z Z Z Z hm4 (.inl hg2) Z hC62 fun w63 ho151 hb23 hl63 hC63 => ?_)
       have ho152 := ho148.go hb23 (fun e => hn1 e)
       refine Zn (Ze (Zy (Zh ?_)))
       have hw12 : VRep RSpan w63 (Add g2 (Add g1 M)) ({ Lo := x10.Lo, Hi := x10.Hi } : Span) (.agg #[(Zv x10.Lo), (Zv x10.Hi)]) := shut_Span
       obtain rfl := sj h
       exact ew_ret (res1 Z (.cell Z (own_loadVarA ho151 (Tryd.isAgg69 _) (Tryd.sizeOf69 _) Z))) ⟨_, Z, ⟨(hw12.mono hC63.back), ho152⟩, hC63.bx⟩
     ·
      obtain rfl := hbb3.trans hc3
      refine Zu Z (cw_skip (Ze (cw_seq (Zr (Zo Z Z Z (ow_loadOwnA Z Z Z ho101 (Tryd.isAgg69 _) (Tryd.sizeOf69 _) Z (lw_op0 Z Z (ow_store (X := (One g)) (us := [(Zv (imin a_top (W ((W (x1.1 * 256)) + x3.1)))), (Zv (imin a_top (W ((imin a_top (W ((W (x1.1 * 256)) + x3.1))) + x7))))]) (cs' := #[(Zv (imin a_top (W ((W (x1.1 * 256)) + x3.1)))), (Zv (imin a_top (W ((imin a_top (W ((W (x1.1 * 256)) + x3.1))) + x7))))]) Z Z Z Z ho100 (Tryd.sizeOf69 _) Z Z Z Z hm4 (.inl hg2) Z hC40 fun w64 ho154 hb24 hl64 hC64 => ?_))))))))
      have ho155 := ho99.go hb24 (fun e => hn1 e)
      refine Zn (Ze (Zy ?_))
      have hw14 : VRep RSpan w64 (Add g2 (Add g1 M)) ({ Lo := (imin a_top (W ((W (x1.1 * 256)) + x3.1))), Hi := (imin a_top (W ((imin a_top (W ((W (x1.1 * 256)) + x3.1))) + x7))) } : Span) (.agg #[(Zv (imin a_top (W ((W (x1.1 * 256)) + x3.1)))), (Zv (imin a_top (W ((imin a_top (W ((W (x1.1 * 256)) + x3.1))) + x7))))]) := shut_Span
      obtain rfl := sj h
      exact ew_ret (res1 Z (.cell Z (own_loadVarA ho154 (Tryd.isAgg69 _) (Tryd.sizeOf69 _) Z))) ⟨_, Z, ⟨(hw14.mono hC64.back), ho155⟩, hC64.bx⟩
  ·
   obtain rfl := hbb2.trans hc2
   refine Zu Z (cw_skip (Ze (cw_seq ?_)))
   replace h := bind_some h
   obtain ⟨x11, hx11, h⟩ := h
   replace h := bind_some h
   obtain ⟨x12, hx12, h⟩ := h
   replace h := bind_some h
   obtain ⟨x13, hx13, h⟩ := h
   replace h := bind_some h
   obtain ⟨x14, hx14, h⟩ := h
   have lz7 := (lz1.trans hl5)
   refine cw_sub (E' := [(0, (Zw g 0)), (1, (Zv a_top)), (2, (Zv a_n)), (6, (Zw g1 0)), (7, (Zw g2 0))]) ⟨Z, Z, Z, Z, Z, Zt⟩ (cw_drawC (g := g) (T := 97) 13 3 [none, none, none, none, some 0, none, some 1, none, none, some 2, none, none, none] [#[(.slice Ax a_xs.length cx), (Zv x2.2)], #[(.slice Ax a_xs.length cx), (Zv x11.2)], #[(.slice Ax a_xs.length cx), (Zv x12.2)], #[(.slice Ax a_xs.length cx), (Zv x13.2)]] [PEq (Zv a_top), PEq (Zw g2 0), PEq (Zv x1.1), PEq (Zw g 0), PEq (Zv x11.1), PEq (Zw g 0), PEq (Zv x12.1), PV (RSlice RInt) (Add g2 (Add g1 M)) [0, x11.1, x12.1, 4096], PEq (Zw g 0), PEq (Zv x13.1), PA RInt (Add g2 (Add g1 M)) x14, PEq (Zv x14), PEq (Zv (W (x1.1 + x14)))] (by kernel_rfl) Z (by kernel_rfl) (by kernel_rfl) ho11 ⟨(PEq.monoY hm3 _), (PEq.monoY hm3 _), (PEq.monoY hm3 _), (PEq.monoY hm3 _), (PEq.monoY hm3 _), (PEq.monoY hm3 _), (PEq.monoY hm3 _), (PV.monoY hm3 _ _), (PEq.monoY hm3 _), (PEq.monoY hm3 _), (PA.monoY hm3 _ _), (PEq.monoY hm3 _), (PEq.monoY hm3 _), Zt⟩ ⟨?_, ?_, ?_, ?_, ?_, ?_, ?_, ?_, ?_, ?_, ?_, ?_, ?_, Zt⟩ ?_)
   · exact fun w69 D hS41 hd41 => Zs (E' := [(1, (Zv a_top))]) ⟨Z, Zt⟩ (Zp Z (Zm Z Z Zb))
   · exact fun w70 D hS42 hd42 => Zs (E' := [(7, (Zw g2 0))]) ⟨Z, Zt⟩ (Zp Z (Zf Z Z Tryd.underlying69 Z (Tryd.sizeOf3 _) Zb))
   ·
    intro w71 D hS43 hd43
    have ho174 := ho13.go hS43 (fun e => hn2 e.symm)
    exact Zs (E' := [(31, (Zw g2 0))]) ⟨dpE hd43 1 Z Z, Zt⟩ (Zp Z (ow_loadOwn1 Z Z Z ho174 (Tryd.isAgg3 _) Z Zb))
   · exact fun w72 D hS44 hd44 => Zs (E' := [(0, (Zw g 0))]) ⟨Z, Zt⟩ (Zp Z (Zm Z Z Zb))
   ·
    intro w73 D hS45 hd45
    obtain ⟨hS45, ho177⟩ := hS45
    have ho177 : Own w73 g 97 #[(.slice Ax a_xs.length cx), (Zv x2.2)] := ho177
    have hl73 := leY hm3 hS45
    have hC73 := hC5.go hS45 (fun b e => Or.inr e)
    refine Zs (E' := [(33, (Zw g 0))]) ⟨dpE hd45 3 Z Z, Zt⟩ (Zp Z (Zk Z Z Tryd.call63 (w_spec_l20Rd_pick (hG.mono (lz7.trans hl73)) hC73.old (VRep.mono (lz7.trans hl73) hxs) ho177 hm3 hx11) fun v26 w74 hv26 => ?_))
    obtain ⟨⟨hv26, ho180⟩, hb29⟩ := hv26
    obtain rfl := Zi hv26
    exact ⟨⟨⟨hS45.trans hb29, ho180⟩, hb29⟩, Z⟩
   · exact fun w75 D hS46 hd46 => Zs (E' := [(0, (Zw g 0))]) ⟨Z, Zt⟩ (Zp Z (Zm Z Z Zb))
   ·
    intro w76 D hS47 hd47
    obtain ⟨hS47, ho185⟩ := hS47
    have ho185 : Own w76 g 97 #[(.slice Ax a_xs.length cx), (Zv x11.2)] := ho185
    have hl76 := leY hm3 hS47
    have hC76 := hC5.go hS47 (fun b e => Or.inr e)
    refine Zs (E' := [(35, (Zw g 0))]) ⟨dpE hd47 5 Z Z, Zt⟩ (Zp Z (Zk Z Z Tryd.call63 (w_spec_l20Rd_pick (hG.mono (lz7.trans hl76)) hC76.old (VRep.mono (lz7.trans hl76) hxs) ho185 hm3 hx12) fun v27 w77 hv27 => ?_))
    obtain ⟨⟨hv27, ho188⟩, hb30⟩ := hv27
    obtain rfl := Zi hv27
    exact ⟨⟨⟨hS47.trans hb30, ho188⟩, hb30⟩, Z⟩
   ·
    intro w78 D hS48 hd48
    have hC78 := hC5.go hS48 (fun b e => Or.inr e)
    exact Zs (E' := [(34, (Zv x11.1)), (36, (Zv x12.1))]) ⟨dpE hd48 4 Z Z, dpE hd48 6 Z Z, Zt⟩ (Zp Z (ow_buildSlice (R := RInt) (xs := [0, x11.1, x12.1, 4096]) (cs := #[(Zv 0), (Zv x11.1), (Zv x12.1), (Zv 4096)]) (e := 3) Z Z (by kernel_rfl) Z Z ⟨_, _, Z, (vint _).cells, _, _, Z, (vint _).cells, _, _, Z, (vint _).cells, _, _, Z, (vint _).cells, Z⟩ hC78 fun p11 w79 hw16 hb31 hl79 hC79 => ⟨hb31, hw16⟩))
   · exact fun w80 D hS49 hd49 => Zs (E' := [(0, (Zw g 0))]) ⟨Z, Zt⟩ (Zp Z (Zm Z Z Zb))
   ·
    intro w81 D hS50 hd50
    obtain ⟨hS50, ho197⟩ := hS50
    have ho197 : Own w81 g 97 #[(.slice Ax a_xs.length cx), (Zv x12.2)] := ho197
    have hl81 := leY hm3 hS50
    have hC81 := hC5.go hS50 (fun b e => Or.inr e)
    refine Zs (E' := [(38, (Zw g 0))]) ⟨dpE hd50 8 Z Z, Zt⟩ (Zp Z (Zk Z Z Tryd.call63 (w_spec_l20Rd_pick (hG.mono (lz7.trans hl81)) hC81.old (VRep.mono (lz7.trans hl81) hxs) ho197 hm3 hx13) fun v28 w82 hv28 => ?_))
    obtain ⟨⟨hv28, ho200⟩, hb32⟩ := hv28
    obtain rfl := Zi hv28
    exact ⟨⟨⟨hS50.trans hb32, ho200⟩, hb32⟩, Z⟩
   ·
    intro w83 D hS51 hd51
    have d79 : PV (RSlice RInt) (Add g2 (Add g1 M)) [0, x11.1, x12.1, 4096] (D 7) w83 := dpA hd51 7 Z
    generalize hq6 : (D 7) = v29 at d79
    exact Zs (E' := [(37, v29), (39, (Zv x13.1))]) ⟨congrArg some hq6, dpE hd51 9 Z Z, Zt⟩ (Zp Z (Zx (R := RInt) Z Z Z d79 Tryd.underlying70 (Tryd.sizeOf3 _) hx14 fun p12 hp12 => ⟨BX.refl _ _, ⟨_, Z, hp12⟩⟩))
   ·
    intro w84 D hS52 hd52
    have d81 : PA RInt (Add g2 (Add g1 M)) x14 (D 10) w84 := dpA hd52 10 Z
    obtain ⟨p13, e2, ha2⟩ := d81
    refine Zs (E' := [(40, (.pointer (some p13)))]) ⟨congrArg some e2, Zt⟩ (Zp Z (Zl (R := RInt) Z Z ha2 (Tryd.sizeOf3 _) (Tryd.isAgg3 _) fun v30 hv30 => ?_))
    obtain rfl := Zi hv30
    exact Zb
   · exact fun w85 D hS53 hd53 => Zs (E' := [(32, (Zv x1.1)), (41, (Zv x14))]) ⟨dpE hd53 2 Z Z, dpE hd53 11 Z Z, Zt⟩ (Zp Z (ow_add Z Z Z Zb))
   ·
    intro w86 D hS54 hd54
    obtain ⟨hS54, ho209⟩ := hS54
    have ho209 : Own w86 g 97 #[(.slice Ax a_xs.length cx), (Zv x13.2)] := ho209
    have hl86 := leY hm3 hS54
    have hC86 := hC5.go hS54 (fun b e => Or.inr e)
    have ho210 := ho12.go hS54 (fun e => hn1 e.symm)
    have ho211 := ho13.go hS54 (fun e => hn2 e.symm)
    refine lw_sub (E' := [(30, (Zv a_top)), (42, (Zv (W (x1.1 + x14)))), (0, (Zw g 0)), (1, (Zv a_top)), (2, (Zv a_n)), (6, (Zw g1 0)), (7, (Zw g2 0))]) ⟨dpE hd54 0 Z Z, dpE hd54 12 Z Z, Z, Z, Z, Z, Z, Zt⟩ (Zo Z Z Z (ow_min Z Z Z (Zo Z Z Z (Zf Z Z Tryd.underlying69 Z (Tryd.sizeOf3 _) (lw_op0 Z Z (ow_store (X := (One g)) (us := [(Zv (imin a_top (W (x1.1 + x14))))]) (cs' := #[(Zv x1.1), (Zv (imin a_top (W (x1.1 + x14))))]) Z Z Z Z ho211 (Tryd.sizeOf3 _) Z Z Z Z hm5 (.inl hg4) Z hC86 fun w87 ho212 hb33 hl87 hC87 => ?_))))))
    have ho213 := ho209.go hb33 (fun e => hn2 e)
    have ho214 := ho210.go hb33 (fun e => hn3 e)
    refine Zn (Ze (cw_seq (cw_seq (Zr (Zo Z Z Z (Zm Z Z (Zo Z Z Z (Zm Z Z ?_))))))))
    have lz9 := ((lz7.trans hl86).trans hl87)
    replace h := bind_some h
    obtain ⟨x15, hx15, h⟩ := h
    refine Zo Z Z Z (Zk Z Z Tryd.call83 (w_spec_l20Rd_odd (hG.mono lz9) hC87.old (VRep.mono lz9 hxs) ho213 hm3 hx15) fun v31 w88 hv31 => ?_)
    obtain ⟨⟨hv31, ho215⟩, hb34⟩ := hv31
    have hl88 := Le.of_bx (Add g2 (Add g1 M)) hb34 (fun b e => (by rw [show b = g from e]; exact hm3))
    have hC88 := hC87.go hb34 (fun b e => Or.inr e)
    have ho216 := ho214.go hb34 (fun e => hn1 e.symm)
    have ho217 := ho212.go hb34 (fun e => hn2 e.symm)
    obtain ⟨bb4, hbb4, rfl⟩ := vbool_ex hv31
    refine Zn (Ze ?_)
    replace h := Zc h
    rcases h with ⟨hc4, h⟩ | ⟨hc4, h⟩
    ·
     obtain rfl := hbb4.trans hc4
     refine cw_true Z (cw_seq ?_)
     replace h := bind_some h
     obtain ⟨x16, hx16, h⟩ := h
     have lz10 := (lz9.trans hl88)
     refine cw_sub (E' := [(0, (Zw g 0)), (1, (Zv a_top)), (6, (Zw g1 0)), (7, (Zw g2 0))]) ⟨Z, Z, Z, Z, Zt⟩ (cw_drawC (g := g) (T := 97) 17 1 [none, none, none, none, none, none, none, none, none, none, none, none, none, none, none, none, some 0] [#[(.slice Ax a_xs.length cx), (Zv x15.2)], #[(.slice Ax a_xs.length cx), (Zv x16.2)]] [PEq (Zw g2 1), PEq (Zv (imin a_top (W (x1.1 + x14)))), PEq (Zv (W ((imin a_top (W (x1.1 + x14))) + 1))), PEq (Zw g2 1), PEq (Zv (imin a_top (W (x1.1 + x14)))), PV RSpan (Add g2 (Add g1 M)) ({ Lo := (W ((imin a_top (W (x1.1 + x14))) + 1)), Hi := (imin a_top (W (x1.1 + x14))) } : Span), PEq (Zw g2 1), PEq (Zv (imin a_top (W (x1.1 + x14)))), PV RSpan (Add g2 (Add g1 M)) ({ Lo := (-1), Hi := (imin a_top (W (x1.1 + x14))) } : Span), PEq (Zw g2 0), PEq (Zv x1.1), PEq (Zv a_top), PEq (Zv (W (a_top + 1))), PV RSpan (Add g2 (Add g1 M)) ({ Lo := x1.1, Hi := (W (a_top + 1)) } : Span), PV (RSlice RSpan) (Add g2 (Add g1 M)) [({ Lo := (W ((imin a_top (W (x1.1 + x14))) + 1)), Hi := (imin a_top (W (x1.1 + x14))) } : Span), ({ Lo := (-1), Hi := (imin a_top (W (x1.1 + x14))) } : Span), ({ Lo := x1.1, Hi := (W (a_top + 1)) } : Span)], PEq (Zw g 0), PEq (Zv x16.1)] (by kernel_rfl) Z (by kernel_rfl) (by kernel_rfl) ho215 ⟨(PEq.monoY hm3 _), (PEq.monoY hm3 _), (PEq.monoY hm3 _), (PEq.monoY hm3 _), (PEq.monoY hm3 _), (PV.monoY hm3 _ _), (PEq.monoY hm3 _), (PEq.monoY hm3 _), (PV.monoY hm3 _ _), (PEq.monoY hm3 _), (PEq.monoY hm3 _), (PEq.monoY hm3 _), (PEq.monoY hm3 _), (PV.monoY hm3 _ _), (PV.monoY hm3 _ _), (PEq.monoY hm3 _), (PEq.monoY hm3 _), Zt⟩ ⟨?_, ?_, ?_, ?_, ?_, ?_, ?_, ?_, ?_, ?_, ?_, ?_, ?_, ?_, ?_, ?_, ?_, Zt⟩ ?_)
     · exact fun w91 D hS55 hd55 => Zs (E' := [(7, (Zw g2 0))]) ⟨Z, Zt⟩ (Zp Z (Zf Z Z Tryd.underlying69 Z (Tryd.sizeOf3 _) Zb))
     ·
      intro w92 D hS56 hd56
      have ho227 := ho217.go hS56 (fun e => hn2 e.symm)
      exact Zs (E' := [(48, (Zw g2 1))]) ⟨dpE hd56 0 Z Z, Zt⟩ (Zp Z (ow_loadOwn1 Z Z Z ho227 (Tryd.isAgg3 _) Z Zb))
     · exact fun w93 D hS57 hd57 => Zs (E' := [(49, (Zv (imin a_top (W (x1.1 + x14)))))]) ⟨dpE hd57 1 Z Z, Zt⟩ (Zp Z (ow_add Z Z Z Zb))
     · exact fun w94 D hS58 hd58 => Zs (E' := [(7, (Zw g2 0))]) ⟨Z, Zt⟩ (Zp Z (Zf Z Z Tryd.underlying69 Z (Tryd.sizeOf3 _) Zb))
     ·
      intro w95 D hS59 hd59
      have ho233 := ho217.go hS59 (fun e => hn2 e.symm)
      exact Zs (E' := [(51, (Zw g2 1))]) ⟨dpE hd59 3 Z Z, Zt⟩ (Zp Z (ow_loadOwn1 Z Z Z ho233 (Tryd.isAgg3 _) Z Zb))
     ·
      intro w96 D hS60 hd60
      refine Zs (E' := [(50, (Zv (W ((imin a_top (W (x1.1 + x14))) + 1)))), (52, (Zv (imin a_top (W (x1.1 + x14)))))]) ⟨dpE hd60 2 Z Z, dpE hd60 4 Z Z, Zt⟩ (Zp Z (ow_build (v := .agg #[(Zv (W ((imin a_top (W (x1.1 + x14))) + 1))), (Zv (imin a_top (W (x1.1 + x14))))]) Z Z (by kernel_rfl) ?_))
      have hw21 : VRep RSpan w96 (Add g2 (Add g1 M)) ({ Lo := (W ((imin a_top (W (x1.1 + x14))) + 1)), Hi := (imin a_top (W (x1.1 + x14))) } : Span) (.agg #[(Zv (W ((imin a_top (W (x1.1 + x14))) + 1))), (Zv (imin a_top (W (x1.1 + x14))))]) := shut_Span
      exact ⟨BX.refl _ _, hw21⟩
     · exact fun w97 D hS61 hd61 => Zs (E' := [(7, (Zw g2 0))]) ⟨Z, Zt⟩ (Zp Z (Zf Z Z Tryd.underlying69 Z (Tryd.sizeOf3 _) Zb))
     ·
      intro w98 D hS62 hd62
      have ho239 := ho217.go hS62 (fun e => hn2 e.symm)
      exact Zs (E' := [(54, (Zw g2 1))]) ⟨dpE hd62 6 Z Z, Zt⟩ (Zp Z (ow_loadOwn1 Z Z Z ho239 (Tryd.isAgg3 _) Z Zb))
     ·
      intro w99 D hS63 hd63
      refine Zs (E' := [(55, (Zv (imin a_top (W (x1.1 + x14)))))]) ⟨dpE hd63 7 Z Z, Zt⟩ (Zp Z (ow_build (v := .agg #[(Zv (-1)), (Zv (imin a_top (W (x1.1 + x14))))]) Z Z (by kernel_rfl) ?_))
      have hw22 : VRep RSpan w99 (Add g2 (Add g1 M)) ({ Lo := (-1), Hi := (imin a_top (W (x1.1 + x14))) } : Span) (.agg #[(Zv (-1)), (Zv (imin a_top (W (x1.1 + x14))))]) := shut_Span
      exact ⟨BX.refl _ _, hw22⟩
     · exact fun w100 D hS64 hd64 => Zs (E' := [(7, (Zw g2 0))]) ⟨Z, Zt⟩ (Zp Z (Zf Z Z Tryd.underlying69 Z (Tryd.sizeOf3 _) Zb))
     ·
      intro w101 D hS65 hd65
      have ho245 := ho217.go hS65 (fun e => hn2 e.symm)
      exact Zs (E' := [(57, (Zw g2 0))]) ⟨dpE hd65 9 Z Z, Zt⟩ (Zp Z (ow_loadOwn1 Z Z Z ho245 (Tryd.isAgg3 _) Z Zb))
     · exact fun w102 D hS66 hd66 => Zs (E' := [(1, (Zv a_top))]) ⟨Z, Zt⟩ (Zp Z (Zm Z Z Zb))
     · exact fun w103 D hS67 hd67 => Zs (E' := [(59, (Zv a_top))]) ⟨dpE hd67 11 Z Z, Zt⟩ (Zp Z (ow_add Z Z Z Zb))
     ·
      intro w104 D hS68 hd68
      refine Zs (E' := [(58, (Zv x1.1)), (60, (Zv (W (a_top + 1))))]) ⟨dpE hd68 10 Z Z, dpE hd68 12 Z Z, Zt⟩ (Zp Z (ow_build (v := .agg #[(Zv x1.1), (Zv (W (a_top + 1)))]) Z Z (by kernel_rfl) ?_))
      have hw23 : VRep RSpan w104 (Add g2 (Add g1 M)) ({ Lo := x1.1, Hi := (W (a_top + 1)) } : Span) (.agg #[(Zv x1.1), (Zv (W (a_top + 1)))]) := shut_Span
      exact ⟨BX.refl _ _, hw23⟩
     ·
      intro w105 D hS69 hd69
      have hC105 := hC88.go hS69 (fun b e => Or.inr e)
      have d108 : PV RSpan (Add g2 (Add g1 M)) ({ Lo := (W ((imin a_top (W (x1.1 + x14))) + 1)), Hi := (imin a_top (W (x1.1 + x14))) } : Span) (D 5) w105 := dpA hd69 5 Z
      have d109 : PV RSpan (Add g2 (Add g1 M)) ({ Lo := (-1), Hi := (imin a_top (W (x1.1 + x14))) } : Span) (D 8) w105 := dpA hd69 8 Z
      have d110 : PV RSpan (Add g2 (Add g1 M)) ({ Lo := x1.1, Hi := (W (a_top + 1)) } : Span) (D 13) w105 := dpA hd69 13 Z
      generalize hq7 : (D 5) = v33 at d108
      generalize hq8 : (D 8) = v34 at d109
      generalize hq9 : (D 13) = v35 at d110
      refine Zs (E' := [(53, v33), (56, v34), (61, v35)]) ⟨congrArg some hq7, congrArg some hq8, congrArg some hq9, Zt⟩ ?_
      obtain rfl := open_Span d108
      obtain rfl := open_Span d109
      obtain rfl := open_Span d110
      exact Zp Z (ow_buildSlice (R := RSpan) (xs := [({ Lo := (W ((imin a_top (W (x1.1 + x14))) + 1)), Hi := (imin a_top (W (x1.1 + x14))) } : Span), ({ Lo := (-1), Hi := (imin a_top (W (x1.1 + x14))) } : Span), ({ Lo := x1.1, Hi := (W (a_top + 1)) } : Span)]) (cs := #[(Zv ({ Lo := (W ((imin a_top (W (x1.1 + x14))) + 1)), Hi := (imin a_top (W (x1.1 + x14))) } : Span).Lo), (Zv ({ Lo := (W ((imin a_top (W (x1.1 + x14))) + 1)), Hi := (imin a_top (W (x1.1 + x14))) } : Span).Hi), (Zv ({ Lo := (-1), Hi := (imin a_top (W (x1.1 + x14))) } : Span).Lo), (Zv ({ Lo := (-1), Hi := (imin a_top (W (x1.1 + x14))) } : Span).Hi), (Zv ({ Lo := x1.1, Hi := (W (a_top + 1)) } : Span).Lo), (Zv ({ Lo := x1.1, Hi := (W (a_top + 1)) } : Span).Hi)]) (e := 69) Z Z (by kernel_rfl) Z Z ⟨_, _, Z, d108.cells, _, _, Z, d109.cells, _, _, Z, d110.cells, Z⟩ hC105 fun p15 w106 hw24 hb37 hl106 hC106 => ⟨hb37, hw24⟩)
     · exact fun w107 D hS70 hd70 => Zs (E' := [(0, (Zw g 0))]) ⟨Z, Zt⟩ (Zp Z (Zm Z Z Zb))
     ·
      intro w108 D hS71 hd71
      obtain ⟨hS71, ho258⟩ := hS71
      have ho258 : Own w108 g 97 #[(.slice Ax a_xs.length cx), (Zv x15.2)] := ho258
      have hl108 := leY hm3 hS71
      have hC108 := hC88.go hS71 (fun b e => Or.inr e)
      refine Zs (E' := [(63, (Zw g 0))]) ⟨dpE hd71 15 Z Z, Zt⟩ (Zp Z (Zk Z Z Tryd.call63 (w_spec_l20Rd_pick (hG.mono (lz10.trans hl108)) hC108.old (VRep.mono (lz10.trans hl108) hxs) ho258 hm3 hx16) fun v36 w109 hv36 => ?_))
      obtain ⟨⟨hv36, ho261⟩, hb38⟩ := hv36
      obtain rfl := Zi hv36
      exact ⟨⟨⟨hS71.trans hb38, ho261⟩, hb38⟩, Z⟩
     ·
      intro w110 D hS72 hd72
      have d126 : PV (RSlice RSpan) (Add g2 (Add g1 M)) [({ Lo := (W ((imin a_top (W (x1.1 + x14))) + 1)), Hi := (imin a_top (W (x1.1 + x14))) } : Span), ({ Lo := (-1), Hi := (imin a_top (W (x1.1 + x14))) } : Span), ({ Lo := x1.1, Hi := (W (a_top + 1)) } : Span)] (D 14) w110 := dpA hd72 14 Z
      obtain ⟨hS72, ho264⟩ := hS72
      have ho264 : Own w110 g 97 #[(.slice Ax a_xs.length cx), (Zv x16.2)] := ho264
      have hC110 := hC88.go hS72 (fun b e => Or.inr e)
      have ho265 := ho216.go hS72 (fun e => hn1 e.symm)
      generalize hq10 : (D 14) = v37 at d126
      refine lw_sub (E' := [(62, v37), (64, (Zv x16.1)), (0, (Zw g 0)), (1, (Zv a_top)), (6, (Zw g1 0)), (7, (Zw g2 0))]) ⟨congrArg some hq10, dpE hd72 16 Z Z, Z, Z, Z, Z, Zt⟩ ?_
      replace h := bind_some h
      obtain ⟨x17, hx17, h⟩ := h
      refine Zo Z Z Z (Zx (R := RSpan) Z Z Z d126 Tryd.underlying59 (Tryd.sizeOf69 _) hx17 fun p16 hp16 => Zo Z Z Z (Zl (R := RSpan) Z Z hp16 (Tryd.sizeOf69 _) (Tryd.isAgg69 _) fun v38 hv38 => ?_))
      obtain rfl := open_Span hv38
      refine lw_op0 Z Z (ow_store (X := (One g)) (us := [(Zv x17.Lo), (Zv x17.Hi)]) (cs' := #[(Zv x17.Lo), (Zv x17.Hi)]) Z Z Z Z ho265 (Tryd.sizeOf69 _) Z Z Z Z hm4 (.inl hg2) Z hC110 fun w111 ho267 hb39 hl111 hC111 => ?_)
      have ho268 := ho264.go hb39 (fun e => hn1 e)
      refine Zn (Ze (Zy (Zh ?_)))
      have hw25 : VRep RSpan w111 (Add g2 (Add g1 M)) ({ Lo := x17.Lo, Hi := x17.Hi } : Span) (.agg #[(Zv x17.Lo), (Zv x17.Hi)]) := shut_Span
      obtain rfl := sj h
      exact ew_ret (res1 Z (.cell Z (own_loadVarA ho267 (Tryd.isAgg69 _) (Tryd.sizeOf69 _) Z))) ⟨_, Z, ⟨(hw25.mono hC111.back), ho268⟩, hC111.bx⟩
    ·
     obtain rfl := hbb4.trans hc4
     refine Zu Z (cw_skip (Ze (cw_seq (Zr (Zo Z Z Z (ow_loadOwnA Z Z Z ho217 (Tryd.isAgg69 _) (Tryd.sizeOf69 _) Z (lw_op0 Z Z (ow_store (X := (One g)) (us := [(Zv x1.1), (Zv (imin a_top (W (x1.1 + x14))))]) (cs' := #[(Zv x1.1), (Zv (imin a_top (W (x1.1 + x14))))]) Z Z Z Z ho216 (Tryd.sizeOf69 _) Z Z Z Z hm4 (.inl hg2) Z hC88 fun w112 ho270 hb40 hl112 hC112 => ?_))))))))
     have ho271 := ho215.go hb40 (fun e => hn1 e)
     refine Zn (Ze (Zy ?_))
     have hw27 : VRep RSpan w112 (Add g2 (Add g1 M)) ({ Lo := x1.1, Hi := (imin a_top (W (x1.1 + x14))) } : Span) (.agg #[(Zv x1.1), (Zv (imin a_top (W (x1.1 + x14))))]) := shut_Span
     obtain rfl := sj h
     exact ew_ret (res1 Z (.cell Z (own_loadVarA ho270 (Tryd.isAgg69 _) (Tryd.sizeOf69 _) Z))) ⟨_, Z, ⟨(hw27.mono hC112.back), ho271⟩, hC112.bx⟩
 ·
  obtain rfl := hbb1.trans hc1
  refine lw_off Z Z Z Z Z Z (lw_off Z Z Z Z Z Z (lw_off Z Z Z Z Z Z (Zo Z Z Z (ow_pickF Z Z Z (Zn (Ze (Zu Z (cw_skip (Ze (cw_seq ?_))))))))))
  replace h := bind_some h
  obtain ⟨x18, hx18, h⟩ := h
  replace h := bind_some h
  obtain ⟨x19, hx19, h⟩ := h
  replace h := bind_some h
  obtain ⟨x20, hx20, h⟩ := h
  replace h := bind_some h
  obtain ⟨x21, hx21, h⟩ := h
  have lz11 := (((hl1.trans hl2).trans hl3).trans hl4)
  refine cw_sub (E' := [(0, (Zw g 0)), (1, (Zv a_top)), (2, (Zv a_n)), (6, (Zw g1 0)), (7, (Zw g2 0))]) ⟨Z, Z, Z, Z, Z, Zt⟩ (cw_drawC (g := g) (T := 97) 13 3 [none, none, none, none, some 0, none, some 1, none, none, some 2, none, none, none] [#[(.slice Ax a_xs.length cx), (Zv x1.2)], #[(.slice Ax a_xs.length cx), (Zv x18.2)], #[(.slice Ax a_xs.length cx), (Zv x19.2)], #[(.slice Ax a_xs.length cx), (Zv x20.2)]] [PEq (Zv a_top), PEq (Zw g2 0), PEq (Zv x1.1), PEq (Zw g 0), PEq (Zv x18.1), PEq (Zw g 0), PEq (Zv x19.1), PV (RSlice RInt) (Add g2 (Add g1 M)) [0, x18.1, x19.1, 4096], PEq (Zw g 0), PEq (Zv x20.1), PA RInt (Add g2 (Add g1 M)) x21, PEq (Zv x21), PEq (Zv (W (x1.1 + x21)))] (by kernel_rfl) Z (by kernel_rfl) (by kernel_rfl) ho9 ⟨(PEq.monoY hm3 _), (PEq.monoY hm3 _), (PEq.monoY hm3 _), (PEq.monoY hm3 _), (PEq.monoY hm3 _), (PEq.monoY hm3 _), (PEq.monoY hm3 _), (PV.monoY hm3 _ _), (PEq.monoY hm3 _), (PEq.monoY hm3 _), (PA.monoY hm3 _ _), (PEq.monoY hm3 _), (PEq.monoY hm3 _), Zt⟩ ⟨?_, ?_, ?_, ?_, ?_, ?_, ?_, ?_, ?_, ?_, ?_, ?_, ?_, Zt⟩ ?_)
  · exact fun w117 D hS73 hd73 => Zs (E' := [(1, (Zv a_top))]) ⟨Z, Zt⟩ (Zp Z (Zm Z Z Zb))
  · exact fun w118 D hS74 hd74 => Zs (E' := [(7, (Zw g2 0))]) ⟨Z, Zt⟩ (Zp Z (Zf Z Z Tryd.underlying69 Z (Tryd.sizeOf3 _) Zb))
  ·
   intro w119 D hS75 hd75
   have ho290 := ho8.go hS75 (fun e => hn2 e.symm)
   exact Zs (E' := [(31, (Zw g2 0))]) ⟨dpE hd75 1 Z Z, Zt⟩ (Zp Z (ow_loadOwn1 Z Z Z ho290 (Tryd.isAgg3 _) Z Zb))
  · exact fun w120 D hS76 hd76 => Zs (E' := [(0, (Zw g 0))]) ⟨Z, Zt⟩ (Zp Z (Zm Z Z Zb))
  ·
   intro w121 D hS77 hd77
   obtain ⟨hS77, ho293⟩ := hS77
   have ho293 : Own w121 g 97 #[(.slice Ax a_xs.length cx), (Zv x1.2)] := ho293
   have hl121 := leY hm3 hS77
   have hC121 := hC4.go hS77 (fun b e => Or.inr e)
   refine Zs (E' := [(33, (Zw g 0))]) ⟨dpE hd77 3 Z Z, Zt⟩ (Zp Z (Zk Z Z Tryd.call63 (w_spec_l20Rd_pick (hG.mono (lz11.trans hl121)) hC121.old (VRep.mono (lz11.trans hl121) hxs) ho293 hm3 hx18) fun v43 w122 hv43 => ?_))
   obtain ⟨⟨hv43, ho296⟩, hb45⟩ := hv43
   obtain rfl := Zi hv43
   exact ⟨⟨⟨hS77.trans hb45, ho296⟩, hb45⟩, Z⟩
  · exact fun w123 D hS78 hd78 => Zs (E' := [(0, (Zw g 0))]) ⟨Z, Zt⟩ (Zp Z (Zm Z Z Zb))
  ·
   intro w124 D hS79 hd79
   obtain ⟨hS79, ho301⟩ := hS79
   have ho301 : Own w124 g 97 #[(.slice Ax a_xs.length cx), (Zv x18.2)] := ho301
   have hl124 := leY hm3 hS79
   have hC124 := hC4.go hS79 (fun b e => Or.inr e)
   refine Zs (E' := [(35, (Zw g 0))]) ⟨dpE hd79 5 Z Z, Zt⟩ (Zp Z (Zk Z Z Tryd.call63 (w_spec_l20Rd_pick (hG.mono (lz11.trans hl124)) hC124.old (VRep.mono (lz11.trans hl124) hxs) ho301 hm3 hx19) fun v44 w125 hv44 => ?_))
   obtain ⟨⟨hv44, ho304⟩, hb46⟩ := hv44
   obtain rfl := Zi hv44
   exact ⟨⟨⟨hS79.trans hb46, ho304⟩, hb46⟩, Z⟩
  ·
   intro w126 D hS80 hd80
   have hC126 := hC4.go hS80 (fun b e => Or.inr e)
   exact Zs (E' := [(34, (Zv x18.1)), (36, (Zv x19.1))]) ⟨dpE hd80 4 Z Z, dpE hd80 6 Z Z, Zt⟩ (Zp Z (ow_buildSlice (R := RInt) (xs := [0, x18.1, x19.1, 4096]) (cs := #[(Zv 0), (Zv x18.1), (Zv x19.1), (Zv 4096)]) (e := 3) Z Z (by kernel_rfl) Z Z ⟨_, _, Z, (vint _).cells, _, _, Z, (vint _).cells, _, _, Z, (vint _).cells, _, _, Z, (vint _).cells, Z⟩ hC126 fun p19 w127 hw29 hb47 hl127 hC127 => ⟨hb47, hw29⟩))
  · exact fun w128 D hS81 hd81 => Zs (E' := [(0, (Zw g 0))]) ⟨Z, Zt⟩ (Zp Z (Zm Z Z Zb))
  ·
   intro w129 D hS82 hd82
   obtain ⟨hS82, ho313⟩ := hS82
   have ho313 : Own w129 g 97 #[(.slice Ax a_xs.length cx), (Zv x19.2)] := ho313
   have hl129 := leY hm3 hS82
   have hC129 := hC4.go hS82 (fun b e => Or.inr e)
   refine Zs (E' := [(38, (Zw g 0))]) ⟨dpE hd82 8 Z Z, Zt⟩ (Zp Z (Zk Z Z Tryd.call63 (w_spec_l20Rd_pick (hG.mono (lz11.trans hl129)) hC129.old (VRep.mono (lz11.trans hl129) hxs) ho313 hm3 hx20) fun v45 w130 hv45 => ?_))
   obtain ⟨⟨hv45, ho316⟩, hb48⟩ := hv45
   obtain rfl := Zi hv45
   exact ⟨⟨⟨hS82.trans hb48, ho316⟩, hb48⟩, Z⟩
  ·
   intro w131 D hS83 hd83
   have d137 : PV (RSlice RInt) (Add g2 (Add g1 M)) [0, x18.1, x19.1, 4096] (D 7) w131 := dpA hd83 7 Z
   generalize hq11 : (D 7) = v46 at d137
   exact Zs (E' := [(37, v46), (39, (Zv x20.1))]) ⟨congrArg some hq11, dpE hd83 9 Z Z, Zt⟩ (Zp Z (Zx (R := RInt) Z Z Z d137 Tryd.underlying70 (Tryd.sizeOf3 _) hx21 fun p20 hp20 => ⟨BX.refl _ _, ⟨_, Z, hp20⟩⟩))
  ·
   intro w132 D hS84 hd84
   have d139 : PA RInt (Add g2 (Add g1 M)) x21 (D 10) w132 := dpA hd84 10 Z
   obtain ⟨p21, e3, ha3⟩ := d139
   refine Zs (E' := [(40, (.pointer (some p21)))]) ⟨congrArg some e3, Zt⟩ (Zp Z (Zl (R := RInt) Z Z ha3 (Tryd.sizeOf3 _) (Tryd.isAgg3 _) fun v47 hv47 => ?_))
   obtain rfl := Zi hv47
   exact Zb
  · exact fun w133 D hS85 hd85 => Zs (E' := [(32, (Zv x1.1)), (41, (Zv x21))]) ⟨dpE hd85 2 Z Z, dpE hd85 11 Z Z, Zt⟩ (Zp Z (ow_add Z Z Z Zb))
  ·
   intro w134 D hS86 hd86
   obtain ⟨hS86, ho325⟩ := hS86
   have ho325 : Own w134 g 97 #[(.slice Ax a_xs.length cx), (Zv x20.2)] := ho325
   have hl134 := leY hm3 hS86
   have hC134 := hC4.go hS86 (fun b e => Or.inr e)
   have ho326 := ho10.go hS86 (fun e => hn1 e.symm)
   have ho327 := ho8.go hS86 (fun e => hn2 e.symm)
   refine lw_sub (E' := [(30, (Zv a_top)), (42, (Zv (W (x1.1 + x21)))), (0, (Zw g 0)), (1, (Zv a_top)), (2, (Zv a_n)), (6, (Zw g1 0)), (7, (Zw g2 0))]) ⟨dpE hd86 0 Z Z, dpE hd86 12 Z Z, Z, Z, Z, Z, Z, Zt⟩ (Zo Z Z Z (ow_min Z Z Z (Zo Z Z Z (Zf Z Z Tryd.underlying69 Z (Tryd.sizeOf3 _) (lw_op0 Z Z (ow_store (X := (One g)) (us := [(Zv (imin a_top (W (x1.1 + x21))))]) (cs' := #[(Zv x1.1), (Zv (imin a_top (W (x1.1 + x21))))]) Z Z Z Z ho327 (Tryd.sizeOf3 _) Z Z Z Z hm5 (.inl hg4) Z hC134 fun w135 ho328 hb49 hl135 hC135 => ?_))))))
   have ho329 := ho325.go hb49 (fun e => hn2 e)
   have ho330 := ho326.go hb49 (fun e => hn3 e)
   refine Zn (Ze (cw_seq (cw_seq (Zr (Zo Z Z Z (Zm Z Z (Zo Z Z Z (Zm Z Z ?_))))))))
   have lz13 := ((lz11.trans hl134).trans hl135)
   replace h := bind_some h
   obtain ⟨x22, hx22, h⟩ := h
   refine Zo Z Z Z (Zk Z Z Tryd.call83 (w_spec_l20Rd_odd (hG.mono lz13) hC135.old (VRep.mono lz13 hxs) ho329 hm3 hx22) fun v48 w136 hv48 => ?_)
   obtain ⟨⟨hv48, ho331⟩, hb50⟩ := hv48
   have hl136 := Le.of_bx (Add g2 (Add g1 M)) hb50 (fun b e => (by rw [show b = g from e]; exact hm3))
   have hC136 := hC135.go hb50 (fun b e => Or.inr e)
   have ho332 := ho330.go hb50 (fun e => hn1 e.symm)
   have ho333 := ho328.go hb50 (fun e => hn2 e.symm)
   obtain ⟨bb5, hbb5, rfl⟩ := vbool_ex hv48
   refine Zn (Ze ?_)
   replace h := Zc h
   rcases h with ⟨hc5, h⟩ | ⟨hc5, h⟩
   ·
    obtain rfl := hbb5.trans hc5
    refine cw_true Z (cw_seq ?_)
    replace h := bind_some h
    obtain ⟨x23, hx23, h⟩ := h
    have lz14 := (lz13.trans hl136)
    refine cw_sub (E' := [(0, (Zw g 0)), (1, (Zv a_top)), (6, (Zw g1 0)), (7, (Zw g2 0))]) ⟨Z, Z, Z, Z, Zt⟩ (cw_drawC (g := g) (T := 97) 17 1 [none, none, none, none, none, none, none, none, none, none, none, none, none, none, none, none, some 0] [#[(.slice Ax a_xs.length cx), (Zv x22.2)], #[(.slice Ax a_xs.length cx), (Zv x23.2)]] [PEq (Zw g2 1), PEq (Zv (imin a_top (W (x1.1 + x21)))), PEq (Zv (W ((imin a_top (W (x1.1 + x21))) + 1))), PEq (Zw g2 1), PEq (Zv (imin a_top (W (x1.1 + x21)))), PV RSpan (Add g2 (Add g1 M)) ({ Lo := (W ((imin a_top (W (x1.1 + x21))) + 1)), Hi := (imin a_top (W (x1.1 + x21))) } : Span), PEq (Zw g2 1), PEq (Zv (imin a_top (W (x1.1 + x21)))), PV RSpan (Add g2 (Add g1 M)) ({ Lo := (-1), Hi := (imin a_top (W (x1.1 + x21))) } : Span), PEq (Zw g2 0), PEq (Zv x1.1), PEq (Zv a_top), PEq (Zv (W (a_top + 1))), PV RSpan (Add g2 (Add g1 M)) ({ Lo := x1.1, Hi := (W (a_top + 1)) } : Span), PV (RSlice RSpan) (Add g2 (Add g1 M)) [({ Lo := (W ((imin a_top (W (x1.1 + x21))) + 1)), Hi := (imin a_top (W (x1.1 + x21))) } : Span), ({ Lo := (-1), Hi := (imin a_top (W (x1.1 + x21))) } : Span), ({ Lo := x1.1, Hi := (W (a_top + 1)) } : Span)], PEq (Zw g 0), PEq (Zv x23.1)] (by kernel_rfl) Z (by kernel_rfl) (by kernel_rfl) ho331 ⟨(PEq.monoY hm3 _), (PEq.monoY hm3 _), (PEq.monoY hm3 _), (PEq.monoY hm3 _), (PEq.monoY hm3 _), (PV.monoY hm3 _ _), (PEq.monoY hm3 _), (PEq.monoY hm3 _), (PV.monoY hm3 _ _), (PEq.monoY hm3 _), (PEq.monoY hm3 _), (PEq.monoY hm3 _), (PEq.monoY hm3 _), (PV.monoY hm3 _ _), (PV.monoY hm3 _ _), (PEq.monoY hm3 _), (PEq.monoY hm3 _), Zt⟩ ⟨?_, ?_, ?_, ?_, ?_, ?_, ?_, ?_, ?_, ?_, ?_, ?_, ?_, ?_, ?_, ?_, ?_, Zt⟩ ?_)
    · exact fun w139 D hS87 hd87 => Zs (E' := [(7, (Zw g2 0))]) ⟨Z, Zt⟩ (Zp Z (Zf Z Z Tryd.underlying69 Z (Tryd.sizeOf3 _) Zb))
    ·
     intro w140 D hS88 hd88
     have ho343 := ho333.go hS88 (fun e => hn2 e.symm)
     exact Zs (E' := [(48, (Zw g2 1))]) ⟨dpE hd88 0 Z Z, Zt⟩ (Zp Z (ow_loadOwn1 Z Z Z ho343 (Tryd.isAgg3 _) Z Zb))
    · exact fun w141 D hS89 hd89 => Zs (E' := [(49, (Zv (imin a_top (W (x1.1 + x21)))))]) ⟨dpE hd89 1 Z Z, Zt⟩ (Zp Z (ow_add Z Z Z Zb))
    · exact fun w142 D hS90 hd90 => Zs (E' := [(7, (Zw g2 0))]) ⟨Z, Zt⟩ (Zp Z (Zf Z Z Tryd.underlying69 Z (Tryd.sizeOf3 _) Zb))
    ·
     intro w143 D hS91 hd91
     have ho349 := ho333.go hS91 (fun e => hn2 e.symm)
     exact Zs (E' := [(51, (Zw g2 1))]) ⟨dpE hd91 3 Z Z, Zt⟩ (Zp Z (ow_loadOwn1 Z Z Z ho349 (Tryd.isAgg3 _) Z Zb))
    ·
     intro w144 D hS92 hd92
     refine Zs (E' := [(50, (Zv (W ((imin a_top (W (x1.1 + x21))) + 1)))), (52, (Zv (imin a_top (W (x1.1 + x21)))))]) ⟨dpE hd92 2 Z Z, dpE hd92 4 Z Z, Zt⟩ (Zp Z (ow_build (v := .agg #[(Zv (W ((imin a_top (W (x1.1 + x21))) + 1))), (Zv (imin a_top (W (x1.1 + x21))))]) Z Z (by kernel_rfl) ?_))
     have hw34 : VRep RSpan w144 (Add g2 (Add g1 M)) ({ Lo := (W ((imin a_top (W (x1.1 + x21))) + 1)), Hi := (imin a_top (W (x1.1 + x21))) } : Span) (.agg #[(Zv (W ((imin a_top (W (x1.1 + x21))) + 1))), (Zv (imin a_top (W (x1.1 + x21))))]) := shut_Span
     exact ⟨BX.refl _ _, hw34⟩
    · exact fun w145 D hS93 hd93 => Zs (E' := [(7, (Zw g2 0))]) ⟨Z, Zt⟩ (Zp Z (Zf Z Z Tryd.underlying69 Z (Tryd.sizeOf3 _) Zb))
    ·
     intro w146 D hS94 hd94
     have ho355 := ho333.go hS94 (fun e => hn2 e.symm)
     exact Zs (E' := [(54, (Zw g2 1))]) ⟨dpE hd94 6 Z Z, Zt⟩ (Zp Z (ow_loadOwn1 Z Z Z ho355 (Tryd.isAgg3 _) Z Zb))
    ·
     intro w147 D hS95 hd95
     refine Zs (E' := [(55, (Zv (imin a_top (W (x1.1 + x21)))))]) ⟨dpE hd95 7 Z Z, Zt⟩ (Zp Z (ow_build (v := .agg #[(Zv (-1)), (Zv (imin a_top (W (x1.1 + x21))))]) Z Z (by kernel_rfl) ?_))
     have hw35 : VRep RSpan w147 (Add g2 (Add g1 M)) ({ Lo := (-1), Hi := (imin a_top (W (x1.1 + x21))) } : Span) (.agg #[(Zv (-1)), (Zv (imin a_top (W (x1.1 + x21))))]) := shut_Span
     exact ⟨BX.refl _ _, hw35⟩
    · exact fun w148 D hS96 hd96 => Zs (E' := [(7, (Zw g2 0))]) ⟨Z, Zt⟩ (Zp Z (Zf Z Z Tryd.underlying69 Z (Tryd.sizeOf3 _) Zb))
    ·
     intro w149 D hS97 hd97
     have ho361 := ho333.go hS97 (fun e => hn2 e.symm)
     exact Zs (E' := [(57, (Zw g2 0))]) ⟨dpE hd97 9 Z Z, Zt⟩ (Zp Z (ow_loadOwn1 Z Z Z ho361 (Tryd.isAgg3 _) Z Zb))
    · exact fun w150 D hS98 hd98 => Zs (E' := [(1, (Zv a_top))]) ⟨Z, Zt⟩ (Zp Z (Zm Z Z Zb))
    · exact fun w151 D hS99 hd99 => Zs (E' := [(59, (Zv a_top))]) ⟨dpE hd99 11 Z Z, Zt⟩ (Zp Z (ow_add Z Z Z Zb))
    ·
     intro w152 D hS100 hd100
     refine Zs (E' := [(58, (Zv x1.1)), (60, (Zv (W (a_top + 1))))]) ⟨dpE hd100 10 Z Z, dpE hd100 12 Z Z, Zt⟩ (Zp Z (ow_build (v := .agg #[(Zv x1.1), (Zv (W (a_top + 1)))]) Z Z (by kernel_rfl) ?_))
     have hw36 : VRep RSpan w152 (Add g2 (Add g1 M)) ({ Lo := x1.1, Hi := (W (a_top + 1)) } : Span) (.agg #[(Zv x1.1), (Zv (W (a_top + 1)))]) := shut_Span
     exact ⟨BX.refl _ _, hw36⟩
    ·
     intro w153 D hS101 hd101
     have hC153 := hC136.go hS101 (fun b e => Or.inr e)
     have d166 : PV RSpan (Add g2 (Add g1 M)) ({ Lo := (W ((imin a_top (W (x1.1 + x21))) + 1)), Hi := (imin a_top (W (x1.1 + x21))) } : Span) (D 5) w153 := dpA hd101 5 Z
     have d167 : PV RSpan (Add g2 (Add g1 M)) ({ Lo := (-1), Hi := (imin a_top (W (x1.1 + x21))) } : Span) (D 8) w153 := dpA hd101 8 Z
     have d168 : PV RSpan (Add g2 (Add g1 M)) ({ Lo := x1.1, Hi := (W (a_top + 1)) } : Span) (D 13) w153 := dpA hd101 13 Z
     generalize hq12 : (D 5) = v50 at d166
     generalize hq13 : (D 8) = v51 at d167
     generalize hq14 : (D 13) = v52 at d168
     refine Zs (E' := [(53, v50), (56, v51), (61, v52)]) ⟨congrArg some hq12, congrArg some hq13, congrArg some hq14, Zt⟩ ?_
     obtain rfl := open_Span d166
     obtain rfl := open_Span d167
     obtain rfl := open_Span d168
     exact Zp Z (ow_buildSlice (R := RSpan) (xs := [({ Lo := (W ((imin a_top (W (x1.1 + x21))) + 1)), Hi := (imin a_top (W (x1.1 + x21))) } : Span), ({ Lo := (-1), Hi := (imin a_top (W (x1.1 + x21))) } : Span), ({ Lo := x1.1, Hi := (W (a_top + 1)) } : Span)]) (cs := #[(Zv ({ Lo := (W ((imin a_top (W (x1.1 + x21))) + 1)), Hi := (imin a_top (W (x1.1 + x21))) } : Span).Lo), (Zv ({ Lo := (W ((imin a_top (W (x1.1 + x21))) + 1)), Hi := (imin a_top (W (x1.1 + x21))) } : Span).Hi), (Zv ({ Lo := (-1), Hi := (imin a_top (W (x1.1 + x21))) } : Span).Lo), (Zv ({ Lo := (-1), Hi := (imin a_top (W (x1.1 + x21))) } : Span).Hi), (Zv ({ Lo := x1.1, Hi := (W (a_top + 1)) } : Span).Lo), (Zv ({ Lo := x1.1, Hi := (W (a_top + 1)) } : Span).Hi)]) (e := 69) Z Z (by kernel_rfl) Z Z ⟨_, _, Z, d166.cells, _, _, Z, d167.cells, _, _, Z, d168.cells, Z⟩ hC153 fun p23 w154 hw37 hb53 hl154 hC154 => ⟨hb53, hw37⟩)
    · exact fun w155 D hS102 hd102 => Zs (E' := [(0, (Zw g 0))]) ⟨Z, Zt⟩ (Zp Z (Zm Z Z Zb))
    ·
     intro w156 D hS103 hd103
     obtain ⟨hS103, ho374⟩ := hS103
     have ho374 : Own w156 g 97 #[(.slice Ax a_xs.length cx), (Zv x22.2)] := ho374
     have hl156 := leY hm3 hS103
     have hC156 := hC136.go hS103 (fun b e => Or.inr e)
     refine Zs (E' := [(63, (Zw g 0))]) ⟨dpE hd103 15 Z Z, Zt⟩ (Zp Z (Zk Z Z Tryd.call63 (w_spec_l20Rd_pick (hG.mono (lz14.trans hl156)) hC156.old (VRep.mono (lz14.trans hl156) hxs) ho374 hm3 hx23) fun v53 w157 hv53 => ?_))
     obtain ⟨⟨hv53, ho377⟩, hb54⟩ := hv53
     obtain rfl := Zi hv53
     exact ⟨⟨⟨hS103.trans hb54, ho377⟩, hb54⟩, Z⟩
    ·
     intro w158 D hS104 hd104
     have d184 : PV (RSlice RSpan) (Add g2 (Add g1 M)) [({ Lo := (W ((imin a_top (W (x1.1 + x21))) + 1)), Hi := (imin a_top (W (x1.1 + x21))) } : Span), ({ Lo := (-1), Hi := (imin a_top (W (x1.1 + x21))) } : Span), ({ Lo := x1.1, Hi := (W (a_top + 1)) } : Span)] (D 14) w158 := dpA hd104 14 Z
     obtain ⟨hS104, ho380⟩ := hS104
     have ho380 : Own w158 g 97 #[(.slice Ax a_xs.length cx), (Zv x23.2)] := ho380
     have hC158 := hC136.go hS104 (fun b e => Or.inr e)
     have ho381 := ho332.go hS104 (fun e => hn1 e.symm)
     generalize hq15 : (D 14) = v54 at d184
     refine lw_sub (E' := [(62, v54), (64, (Zv x23.1)), (0, (Zw g 0)), (1, (Zv a_top)), (6, (Zw g1 0)), (7, (Zw g2 0))]) ⟨congrArg some hq15, dpE hd104 16 Z Z, Z, Z, Z, Z, Zt⟩ ?_
     replace h := bind_some h
     obtain ⟨x24, hx24, h⟩ := h
     refine Zo Z Z Z (Zx (R := RSpan) Z Z Z d184 Tryd.underlying59 (Tryd.sizeOf69 _) hx24 fun p24 hp24 => Zo Z Z Z (Zl (R := RSpan) Z Z hp24 (Tryd.sizeOf69 _) (Tryd.isAgg69 _) fun v55 hv55 => ?_))
     obtain rfl := open_Span hv55
     refine lw_op0 Z Z (ow_store (X := (One g)) (us := [(Zv x24.Lo), (Zv x24.Hi)]) (cs' := #[(Zv x24.Lo), (Zv x24.Hi)]) Z Z Z Z ho381 (Tryd.sizeOf69 _) Z Z Z Z hm4 (.inl hg2) Z hC158 fun w159 ho383 hb55 hl159 hC159 => ?_)
     have ho384 := ho380.go hb55 (fun e => hn1 e)
     refine Zn (Ze (Zy (Zh ?_)))
     have hw38 : VRep RSpan w159 (Add g2 (Add g1 M)) ({ Lo := x24.Lo, Hi := x24.Hi } : Span) (.agg #[(Zv x24.Lo), (Zv x24.Hi)]) := shut_Span
     obtain rfl := sj h
     exact ew_ret (res1 Z (.cell Z (own_loadVarA ho383 (Tryd.isAgg69 _) (Tryd.sizeOf69 _) Z))) ⟨_, Z, ⟨(hw38.mono hC159.back), ho384⟩, hC159.bx⟩
   ·
    obtain rfl := hbb5.trans hc5
    refine Zu Z (cw_skip (Ze (cw_seq (Zr (Zo Z Z Z (ow_loadOwnA Z Z Z ho333 (Tryd.isAgg69 _) (Tryd.sizeOf69 _) Z (lw_op0 Z Z (ow_store (X := (One g)) (us := [(Zv x1.1), (Zv (imin a_top (W (x1.1 + x21))))]) (cs' := #[(Zv x1.1), (Zv (imin a_top (W (x1.1 + x21))))]) Z Z Z Z ho332 (Tryd.sizeOf69 _) Z Z Z Z hm4 (.inl hg2) Z hC136 fun w160 ho386 hb56 hl160 hC160 => ?_))))))))
    have ho387 := ho331.go hb56 (fun e => hn1 e)
    refine Zn (Ze (Zy ?_))
    have hw40 : VRep RSpan w160 (Add g2 (Add g1 M)) ({ Lo := x1.1, Hi := (imin a_top (W (x1.1 + x21))) } : Span) (.agg #[(Zv x1.1), (Zv (imin a_top (W (x1.1 + x21))))]) := shut_Span
    obtain rfl := sj h
    exact ew_ret (res1 Z (.cell Z (own_loadVarA ho386 (Tryd.isAgg69 _) (Tryd.sizeOf69 _) Z))) ⟨_, Z, ⟨(hw40.mono hC160.back), ho387⟩, hC160.bx⟩

theorem w_spec_l20Raw {w : World} {M : Nat → Prop} (hG : ARep (RArr 4 RShape) w M shapes ⟨0, 0, none⟩) (hO : ∀ b, M b → b < w.heap.size) {g : Nat} {Ax : Option Addr} {cx : Nat} {a_xs : List Int} {a_pos : Int} (hxs : VRep (RSlice RU8) w M a_xs (.slice Ax a_xs.length cx)) (hown : Own w g 97 #[.slice Ax a_xs.length cx, .int .i64 a_pos]) (hgM : M g) {a_top : Int} {a_n : Int} {r : ((List Span)) × Int} (h : F.spec_l20Raw a_xs a_pos a_top a_n = some r) :
  Calls Tryd.prog 92 [(.pointer (some ⟨g, 0, none⟩)), (.int .i64 a_top), (.int .i64 a_n)].toArray w fun e w' => ∃ v, e = .returned v ∧ (VRep (RSlice RSpan) w' M r.1 v ∧ Own w' g 97 #[.slice Ax a_xs.length cx, .int .i64 r.2]) ∧ BX (One g) w w' := by
 obtain ⟨i69, hi69, hz69, hs69, hy69⟩ := info69
 have hX : ∀ b, (One g) b → M b := fun b e => e ▸ hgM
 have hC : Cx (One g) w M w M := Cx.start hO hX
 refine walk (N := 24) Tryd.func92 Z Tryd.ntmps92 Z (cw_seq (Zr (Zo Z Z Z (Za Z Z (Zn (Ze (cw_seq (Zr (Zo Z Z Z (ow_buildSlice0 (R := RSpan) (e := 69) Z (by kernel_rfl) hC fun p1 w1 M1 hr1 hb1 hl1 hC1 hM1 hat1 => ?_))))))))))
 have ho1 := hown.no hb1
 have hm1 := hM1 _ hgM
 refine Zo Z Z Z (Za Z Z (Zn (Ze (cw_seq (cw_seq (Zr (Zo Z Z Z (Zm Z Z ?_))))))))
 replace h := bind_some h
 obtain ⟨x1, hx1, h⟩ := h
 refine Zo Z Z Z (Zk Z Z Tryd.call63 (w_spec_l20Rd_pick (hG.mono hl1) hC1.old (VRep.mono hl1 hxs) ho1 hm1 hx1) fun v1 w2 hv1 => ?_)
 obtain ⟨⟨hv1, ho2⟩, hb2⟩ := hv1
 have hl2 := Le.of_bx M1 hb2 (fun b e => (by rw [show b = g from e]; exact hm1))
 have hC2 := hC1.go hb2 (fun b e => Or.inr e)
 have hr2 := hr1.go hb2 (fun k hk e => (orow_ne hr1 ho1 (by decide)) (hk.trans (congrArg some e))) hl2 (fun _ h => h)
 obtain rfl := Zi hv1
 refine Zo Z Z Z (Za Z Z (Zn (Ze ?_)))
 replace h := bind_some h
 obtain ⟨lr1, hlr1, h⟩ := h
 refine cw_for hlr1 (fun s a w' => ∃ (M' : Nat → Prop) (v0c : Value), Fits 24 [(0, (Zw g 0)), (1, (Zv a_top)), (2, (Zv a_n)), (7, v0c), (8, (Zv s.2.1))] a ∧ Le w2 M1 w' M' ∧ Cx (One g) w M w' M' ∧ OwnRow RSpan w.heap.size 69 w' M' s.1 v0c ∧ Own w' g 97 #[(.slice Ax a_xs.length cx), (Zv s.2.2)] ∧ M' g) ?_ ?_ ?_
 · exact fun a ha => ⟨M1, (.slice (some p1) 0 0), ha.sub ⟨Z, Z, Z, Z, Z, Zt⟩, Le.refl _ _, hC2, hr2, ho2, hm1⟩
 ·
  rintro ⟨y1, k1, k2⟩ a w3 sr1 ⟨M2, v2, hF1, hl3, hC3, hw1, ho3, hm2⟩ hb3 hR1
  refine cw_at (E := [(0, (Zw g 0)), (1, (Zv a_top)), (2, (Zv a_n)), (7, v2), (8, (Zv k1))]) hF1 (cw_seq (cw_seq (Zr (Zo Z Z Z (Zm Z Z (Zo Z Z Z (ow_gtr Z Z Z fun bb1 hbb1 => Zn (Ze ?_))))))))
  replace hb3 := Zc hb3
  rcases hb3 with ⟨hc1, hb3⟩ | ⟨hc1, hb3⟩
  ·
   obtain rfl := hbb1.trans hc1
   refine cw_true Z (cw_skip (Ze (cw_seq (cw_block (Zr (Zo Z Z Z (Zm Z Z (Zo Z Z Z (Zm Z Z (Zo Z Z Z (Zm Z Z (Zo Z Z Z (Zm Z Z ?_)))))))))))))
   have lz1 := ((hl1.trans hl2).trans hl3)
   replace hb3 := bind_some hb3
   obtain ⟨x2, hx2, hb3⟩ := hb3
   refine Zo Z Z Z (Zk Z Z Tryd.call93 (w_spec_l20Span (hG.mono lz1) hC3.old (VRep.mono lz1 hxs) ho3 hm2 hx2) fun v5 w4 hv5 => ?_)
   obtain ⟨⟨hv5, ho4⟩, hb4⟩ := hv5
   have hl4 := Le.of_bx M2 hb4 (fun b e => (by rw [show b = g from e]; exact hm2))
   have hC4 := hC3.go hb4 (fun b e => Or.inr e)
   have hr3 := hw1.go hb4 (fun k hk e => (orow_ne hw1 ho3 (by decide)) (hk.trans (congrArg some e))) hl4 (fun _ h => h)
   obtain rfl := open_Span hv5
   refine Zo Z Z Z (ow_buildSlice (R := RSpan) (xs := [x2.1]) (cs := #[(Zv x2.1.Lo), (Zv x2.1.Hi)]) (e := 69) Z Z (by kernel_rfl) Z Z ⟨_, _, Z, hv5.cells, Z⟩ hC4 fun p2 w5 hw2 hb5 hl5 hC5 => ?_)
   have ho5 := ho4.no hb5
   have hr4 := hr3.no hb5
   replace hb3 := bind_some hb3
   obtain ⟨z1, hz1, hb3⟩ := hb3
   refine Zo Z Z Z (ow_append (R := RSpan) Z Z Z Z Tryd.underlying59 hi69 hz69 hs69 hy69 Z Z Z Z hr4 hw2 hz1 hC5 fun v6 w6 M3 hr5 hb6 hl6 hC6 hM2 hat2 => ?_)
   have ho6 := ho5.go hb6 (fun e => (orow_ne hr4 ho5 (by decide)) e)
   have hm3 := hM2 _ hm2
   refine Zo Z Z Z (Za Z Z (Zn (ew_blockN (Ze (Zr (Zo Z Z Z (Zm Z Z (Zo Z Z Z (ow_sub Z Z Z (Zo Z Z Z (Za Z Z (Zn ?_))))))))))))
   have lz2 := (((hl3.trans hl4).trans hl5).trans hl6)
   exact ew_nxt (z1, (W (k1 - 1)), x2.2) hb3 fun a ha => ⟨M3, v6, (ha.sub ⟨Z, Z, Z, Z, Z, Zt⟩), lz2, hC6, hr5, ho6, hm3⟩
  ·
   obtain rfl := hbb1.trans hc1
   exact Zu Z (cw_exit (ew_thenX (ew_thenX (ew_blockX (ew_brk (y1, k1, k2) hb3 fun a ha => ⟨M2, v2, (ha.sub ⟨Z, Z, Z, Z, Z, Zt⟩), hl3, hC3, hw1, ho3, hm2⟩)))))
 ·
  rintro ⟨y2, k3, k4⟩ a w7 hlr2 ⟨M4, v7, hF2, hl7, hC7, hw3, ho7, hm4⟩
  subst hlr2
  refine ew_at (E := [(0, (Zw g 0)), (1, (Zv a_top)), (2, (Zv a_n)), (7, v7), (8, (Zv k3))]) hF2 (Ze (cw_seq (Zr (Zo Z Z Z (Zm Z Z (Zo Z Z Z (Za Z Z (Zn (Ze (Zy ?_))))))))))
  obtain rfl := sj h
  exact ew_ret (res1 Z (.tmp Z)) ⟨_, Z, ⟨(hw3.freezeBack hC7 hO), ho7⟩, hC7.bx⟩

theorem w_spec_l20Set {w : World} {M : Nat → Prop} (hG : ARep (RArr 4 RShape) w M shapes ⟨0, 0, none⟩) (hO : ∀ b, M b → b < w.heap.size) {g : Nat} {Ax : Option Addr} {cx : Nat} {a_xs : List Int} {a_pos : Int} (hxs : VRep (RSlice RU8) w M a_xs (.slice Ax a_xs.length cx)) (hown : Own w g 97 #[.slice Ax a_xs.length cx, .int .i64 a_pos]) (hgM : M g) {a_top : Int} {a_n : Int} {r : ((List Span)) × Int} (h : F.spec_l20Set a_xs a_pos a_top a_n = some r) :
  Calls Tryd.prog 66 [(.pointer (some ⟨g, 0, none⟩)), (.int .i64 a_top), (.int .i64 a_n)].toArray w fun e w' => ∃ v, e = .returned v ∧ (VRep (RSlice RSpan) w' M r.1 v ∧ Own w' g 97 #[.slice Ax a_xs.length cx, .int .i64 r.2]) ∧ BX (One g) w w' := by
 obtain ⟨i69, hi69, hz69, hs69, hy69⟩ := info69
 have hX : ∀ b, (One g) b → M b := fun b e => e ▸ hgM
 have hC : Cx (One g) w M w M := Cx.start hO hX
 refine walk (N := 35) Tryd.func66 Z Tryd.ntmps66 Z (cw_seq (Zr (Zo Z Z Z (Za Z Z (Zn (Ze (cw_seq (Zr (Zo Z Z Z (Zm Z Z (Zo Z Z Z (Zm Z Z ?_))))))))))))
 replace h := bind_some h
 obtain ⟨x1, hx1, h⟩ := h
 refine Zo Z Z Z (Zk Z Z Tryd.call92 (w_spec_l20Raw hG hC.old hxs hown hgM hx1) fun v1 w1 hv1 => ?_)
 obtain ⟨⟨hv1, ho1⟩, hb1⟩ := hv1
 have hl1 := Le.of_bx M hb1 (fun b e => (by rw [show b = g from e]; exact hgM))
 have hC1 := hC.go hb1 (fun b e => Or.inr e)
 refine Zo Z Z Z (Zm Z Z ?_)
 replace h := bind_some h
 obtain ⟨x2, hx2, h⟩ := h
 refine Zo Z Z Z (Zk Z Z Tryd.call91 (wo_spec_SpansOf (hG.mono hl1) hC1.old hv1 hx2) fun v2 w2 hv2 => ?_)
 obtain ⟨⟨M1, hr1, hk1⟩, hb2⟩ := hv2
 replace hr1 := hr1.base hC1.bx.size
 have hl2 := hk1.le
 have hC2 := hC1.trans hk1
 have ho2 := ho1.no hb2
 have hm1 := hk1.sup _ hgM
 refine Zo Z Z Z (Za Z Z (Zn (Ze (cw_seq (cw_seq (Zr (Zo Z Z Z (Zm Z Z (Zo Z Z Z (Zm Z Z ?_))))))))))
 replace h := bind_some h
 obtain ⟨x3, hx3, h⟩ := h
 refine Zo Z Z Z (Zk Z Z Tryd.call83 (w_spec_l20Rd_odd (hG.mono (hl1.trans hl2)) hC2.old (VRep.mono (hl1.trans hl2) hxs) ho2 hm1 hx3) fun v3 w3 hv3 => ?_)
 obtain ⟨⟨hv3, ho3⟩, hb3⟩ := hv3
 have hl3 := Le.of_bx M1 hb3 (fun b e => (by rw [show b = g from e]; exact hm1))
 have hC3 := hC2.go hb3 (fun b e => Or.inr e)
 have hr2 := hr1.go hb3 (fun k hk e => (orow_ne hr1 ho2 (by decide)) (hk.trans (congrArg some e))) hl3 (fun _ h => h)
 obtain ⟨bb1, hbb1, rfl⟩ := vbool_ex hv3
 refine Zn (Ze ?_)
 replace h := Zc h
 rcases h with ⟨hc1, h⟩ | ⟨hc1, h⟩
 ·
  obtain rfl := hbb1.trans hc1
  refine cw_true Z (cw_seq (Zr (Zo Z Z Z (Zm Z Z ?_))))
  have lz1 := ((hl1.trans hl2).trans hl3)
  replace h := bind_some h
  obtain ⟨x4, hx4, h⟩ := h
  refine Zo Z Z Z (Zk Z Z Tryd.call63 (w_spec_l20Rd_pick (hG.mono lz1) hC3.old (VRep.mono lz1 hxs) ho3 hm1 hx4) fun v4 w4 hv4 => ?_)
  obtain ⟨⟨hv4, ho4⟩, hb4⟩ := hv4
  have hl4 := Le.of_bx M1 hb4 (fun b e => (by rw [show b = g from e]; exact hm1))
  have hC4 := hC3.go hb4 (fun b e => Or.inr e)
  have hr3 := hr2.go hb4 (fun k hk e => (orow_ne hr2 ho3 (by decide)) (hk.trans (congrArg some e))) hl4 (fun _ h => h)
  obtain rfl := Zi hv4
  refine Zn (Ze (cw_block (cw_seq (Zr (Zo Z Z Z (ow_eqlI Z Z Z fun bb2 hbb2 => Zo Z Z Z (Za Z Z (Zn (Ze ?_)))))))))
  replace h := Zc h
  rcases h with ⟨hc2, h⟩ | ⟨hc2, h⟩
  ·
   obtain rfl := hbb2.trans hc2
   refine cw_true Z (Zr (Zo Z Z Z (Zm Z Z (Zo Z Z Z (Zm Z Z (Zo Z Z Z (Zm Z Z ?_)))))))
   replace h := bind_some h
   obtain ⟨x5, hx5, h⟩ := h
   refine Zo Z Z Z (Zk Z Z Tryd.call93 (w_spec_l20Span (hG.mono (lz1.trans hl4)) hC4.old (VRep.mono (lz1.trans hl4) hxs) ho4 hm1 hx5) fun v5 w5 hv5 => ?_)
   obtain ⟨⟨hv5, ho5⟩, hb5⟩ := hv5
   have hl5 := Le.of_bx M1 hb5 (fun b e => (by rw [show b = g from e]; exact hm1))
   have hC5 := hC4.go hb5 (fun b e => Or.inr e)
   have hr4 := hr3.go hb5 (fun k hk e => (orow_ne hr3 ho4 (by decide)) (hk.trans (congrArg some e))) hl5 (fun _ h => h)
   obtain rfl := open_Span hv5
   refine Zo Z Z Z (ow_buildSlice (R := RSpan) (xs := [x5.1]) (cs := #[(Zv x5.1.Lo), (Zv x5.1.Hi)]) (e := 69) Z Z (by kernel_rfl) Z Z ⟨_, _, Z, hv5.cells, Z⟩ hC5 fun p1 w6 hw1 hb6 hl6 hC6 => ?_)
   have ho6 := ho5.no hb6
   have hr5 := hr4.no hb6
   replace h := bind_some h
   obtain ⟨z1, hz1, h⟩ := h
   refine Zo Z Z Z (ow_append (R := RSpan) Z Z Z Z Tryd.underlying59 hi69 hz69 hs69 hy69 Z Z Z Z hr5 hw1 hz1 hC6 fun v6 w7 M2 hr6 hb7 hl7 hC7 hM1 hat1 => ?_)
   have ho7 := ho6.go hb7 (fun e => (orow_ne hr5 ho6 (by decide)) e)
   refine Zo Z Z Z (Za Z Z (Zn (ew_blockN (Ze (cw_seq (Zr (Zo Z Z Z (Zm Z Z (Zo Z Z Z (Za Z Z (Zn (Ze (Zy ?_)))))))))))))
   obtain rfl := sj h
   exact ew_ret (res1 Z (.tmp Z)) ⟨_, Z, ⟨(hr6.freezeBack hC7 hO), ho7⟩, hC7.bx⟩
  ·
   obtain rfl := hbb2.trans hc2
   refine Zu Z (cw_seq (Zr (Zo Z Z Z (ow_eqlI Z Z Z fun bb3 hbb3 => Zo Z Z Z (Za Z Z (Zn (Ze ?_)))))))
   replace h := Zc h
   rcases h with ⟨hc3, h⟩ | ⟨hc3, h⟩
   ·
    obtain rfl := hbb3.trans hc3
    refine cw_true Z (Zr (Zo Z Z Z (Zm Z Z (Zo Z Z Z (ow_build (v := .agg #[(Zv 1), (Zv 2)]) Z Z (by kernel_rfl) ?_)))))
    have hw2 : VRep RSpan w4 M1 ({ Lo := 1, Hi := 2 } : Span) (.agg #[(Zv 1), (Zv 2)]) := shut_Span
    refine Zo Z Z Z (ow_build (v := .agg #[(Zv 3), (Zv 3)]) Z Z (by kernel_rfl) ?_)
    have hw3 : VRep RSpan w4 M1 ({ Lo := 3, Hi := 3 } : Span) (.agg #[(Zv 3), (Zv 3)]) := shut_Span
    refine Zo Z Z Z (ow_buildSlice (R := RSpan) (xs := [({ Lo := 1, Hi := 2 } : Span), ({ Lo := 3, Hi := 3 } : Span)]) (cs := #[(Zv 1), (Zv 2), (Zv 3), (Zv 3)]) (e := 69) Z Z (by kernel_rfl) Z Z ⟨_, _, Z, hw2.cells, _, _, Z, hw3.cells, Z⟩ hC4 fun p2 w8 hw4 hb8 hl8 hC8 => ?_)
    have ho8 := ho4.no hb8
    have hr7 := hr3.no hb8
    replace h := bind_some h
    obtain ⟨z2, hz2, h⟩ := h
    refine Zo Z Z Z (ow_append (R := RSpan) Z Z Z Z Tryd.underlying59 hi69 hz69 hs69 hy69 Z Z Z Z hr7 hw4 hz2 hC8 fun v7 w9 M3 hr8 hb9 hl9 hC9 hM2 hat2 => ?_)
    have ho9 := ho8.go hb9 (fun e => (orow_ne hr7 ho8 (by decide)) e)
    refine Zo Z Z Z (Za Z Z (Zn (ew_blockN (Ze (cw_seq (Zr (Zo Z Z Z (Zm Z Z (Zo Z Z Z (Za Z Z (Zn (Ze (Zy ?_)))))))))))))
    obtain rfl := sj h
    exact ew_ret (res1 Z (.tmp Z)) ⟨_, Z, ⟨(hr8.freezeBack hC9 hO), ho9⟩, hC9.bx⟩
   ·
    obtain rfl := hbb3.trans hc3
    refine Zu Z (Zr ?_)
    replace h := bind_some h
    obtain ⟨mk1, hmk1, h⟩ := h
    refine Zo Z Z Z (ow_make (R := RSpan) Z Z Z Tryd.underlying59 hi69 hz69 hs69 hy69 Z Z (shut_Span) hmk1 hC4 fun v8 w10 M4 hr9 hb10 hl10 hC10 hM3 hat3 => ?_)
    have ho10 := ho4.no hb10
    refine Zo Z Z Z (Za Z Z (Zn (ew_blockN (Ze (cw_seq (Zr (Zo Z Z Z (Zm Z Z (Zo Z Z Z (Za Z Z (Zn (Ze (Zy ?_)))))))))))))
    obtain rfl := sj h
    exact ew_ret (res1 Z (.tmp Z)) ⟨_, Z, ⟨(hr9.freezeBack hC10 hO), ho10⟩, hC10.bx⟩
 ·
  obtain rfl := hbb1.trans hc1
  refine Zu Z (cw_skip (Ze (cw_seq (Zr (Zo Z Z Z (Zm Z Z (Zo Z Z Z (Za Z Z (Zn (Ze (Zy ?_)))))))))))
  obtain rfl := sj h
  exact ew_ret (res1 Z (.tmp Z)) ⟨_, Z, ⟨(hr2.freezeBack hC3 hO), ho3⟩, hC3.bx⟩


end Go.PF
