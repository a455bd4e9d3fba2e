/- The walks; no condition. -/
import Derived.Test.YtadlmencjbangaaDoorProg
import Derived.Test.YtadlmencjbangaaDoorWk1
import Derived.Test.YtadlmencjbangaaDoorPFSeq
import Derived.Test.YtadlmencjbangaaDoorPFDrop
set_option maxRecDepth 100000
set_option maxHeartbeats 4000000
namespace Go.PF
open Go Go.RowKit Go.Proofs

theorem w_spec_l20Region {w : World} {M : Nat → Prop} (hG : ARep (RArr 4 RShape) w M shapes ⟨0, 0, none⟩) (hO : ∀ b, M b → b < w.heap.size) {g : Nat} {Ax : Option Addr} {cx : Nat} {a_xs : List Int} {a_pos : Int} (hxs : VRep (RSlice RU8) w M a_xs (.slice Ax a_xs.length cx)) (hown : Own w g 97 #[.slice Ax a_xs.length cx, .int .i64 a_pos]) (hgM : M g) {a_n : Int} {r : ((List Box)) × Int} (h : F.spec_l20Region a_xs a_pos a_n = some r) :
  Calls Tryd.prog 48 [(.pointer (some ⟨g, 0, none⟩)), (.int .i64 a_n)].toArray w fun e w' => ∃ v, e = .returned v ∧ (VRep (RSlice RBox) w' M r.1 v ∧ Own w' g 97 #[.slice Ax a_xs.length cx, .int .i64 r.2]) ∧ BX (One g) w w' := by
 obtain ⟨i25, hi25, hz25, hs25, hy25⟩ := info25
 have hX : ∀ b, (One g) b → M b := fun b e => e ▸ hgM
 have hC : Cx (One g) w M w M := Cx.start hO hX
 refine walk (N := 32) Tryd.func48 Z Tryd.ntmps48 Z (cw_seq (Zr (Zo Z Z Z (Za Z Z (Zn (Ze (cw_seq (Zr (Zo Z Z Z (ow_buildSlice0 (R := RBox) (e := 25) Z (by kernel_rfl) hC fun p1 w1 M1 hr1 hb1 hl1 hC1 hM1 hat1 => ?_))))))))))
 have ho1 := hown.no hb1
 have hm1 := hM1 _ hgM
 refine Zo Z Z Z (Za Z Z (Zn (Ze (cw_seq (cw_seq (Zr (Zo Z Z Z (Zm Z Z ?_))))))))
 replace h := bind_some h
 obtain ⟨x1, hx1, h⟩ := h
 refine Zo Z Z Z (Zk Z Z Tryd.call63 (w_spec_l20Rd_pick (hG.mono hl1) hC1.old (VRep.mono hl1 hxs) ho1 hm1 hx1) fun v1 w2 hv1 => ?_)
 obtain ⟨⟨hv1, ho2⟩, hb2⟩ := hv1
 have hl2 := Le.of_bx M1 hb2 (fun b e => (by rw [show b = g from e]; exact hm1))
 have hC2 := hC1.go hb2 (fun b e => Or.inr e)
 have hr2 := hr1.go hb2 (fun k hk e => (orow_ne hr1 ho1 (by decide)) (hk.trans (congrArg some e))) hl2 (fun _ h => h)
 obtain rfl := Zi hv1
 refine Zo Z Z Z (Za Z Z (Zn (Ze ?_)))
 replace h := bind_some h
 obtain ⟨lr1, hlr1, h⟩ := h
 refine cw_for hlr1 (fun s a w' => ∃ (M' : Nat → Prop) (v0c : Value), Fits 32 [(0, (.pointer (some ⟨g, 0, none⟩))), (1, (.int .i64 a_n)), (5, v0c), (6, (.int .i64 s.2.1))] a ∧ Le w2 M1 w' M' ∧ Cx (One g) w M w' M' ∧ OwnRow RBox w.heap.size 25 w' M' s.1 v0c ∧ Own w' g 97 #[(.slice Ax a_xs.length cx), (.int .i64 s.2.2)] ∧ M' g) ?_ ?_ ?_
 ·
  intro a ha
  exact ⟨M1, (.slice (some p1) 0 0), ha.sub ⟨Z, Z, Z, Z, trivial⟩, Le.refl _ _, hC2, hr2, ho2, hm1⟩
 ·
  rintro ⟨y1, k1, k2⟩ a w3 sr1 ⟨M2, v2, hF1, hl3, hC3, hw1, ho3, hm2⟩ hb3 hR1
  refine cw_at (E := [(0, (.pointer (some ⟨g, 0, none⟩))), (1, (.int .i64 a_n)), (5, v2), (6, (.int .i64 k1))]) hF1 (cw_seq (cw_seq (Zr (Zo Z Z Z (Zm Z Z (Zo Z Z Z (ow_gtr Z Z Z fun bb1 hbb1 => Zn (Ze ?_))))))))
  replace hb3 := Zc hb3
  rcases hb3 with ⟨hc1, hb3⟩ | ⟨hc1, hb3⟩
  ·
   obtain rfl := hbb1.trans hc1
   refine Zt Z (cw_skip (Ze (cw_seq (cw_block (Zr (Zo Z Z Z (Zm Z Z (Zo Z Z Z (Zm Z Z ?_)))))))))
   have lz1 := ((hl1.trans hl2).trans hl3)
   replace hb3 := bind_some hb3
   obtain ⟨x2, hx2, hb3⟩ := hb3
   refine Zo Z Z Z (Zk Z Z Tryd.call47 (w_spec_l20Box (hG.mono lz1) hC3.old (VRep.mono lz1 hxs) ho3 hm2 hx2) fun v5 w4 hv5 => ?_)
   obtain ⟨⟨hv5, ho4⟩, hb4⟩ := hv5
   have hl4 := Le.of_bx M2 hb4 (fun b e => (by rw [show b = g from e]; exact hm2))
   have hC4 := hC3.go hb4 (fun b e => Or.inr e)
   have hr3 := hw1.go hb4 (fun k hk e => (orow_ne hw1 ho3 (by decide)) (hk.trans (congrArg some e))) hl4 (fun _ h => h)
   obtain ⟨A1, c1, rfl, hw2⟩ := open_Box hv5
   refine Zo Z Z Z (ow_buildSlice (R := RBox) (xs := [x2.1]) (cs := #[(.slice A1 x2.1.Sides.length c1)]) (e := 25) Z Z (by kernel_rfl) Z Z ⟨_, _, Z, hv5.cells, Z⟩ hC4 fun p2 w5 hw3 hb5 hl5 hC5 => ?_)
   have ho5 := ho4.no hb5
   have hr4 := hr3.no hb5
   replace hb3 := bind_some hb3
   obtain ⟨z1, hz1, hb3⟩ := hb3
   refine Zo Z Z Z (ow_append (R := RBox) Z Z Z Z Tryd.underlying28 hi25 hz25 hs25 hy25 Z Z Z Z hr4 hw3 hz1 hC5 fun v6 w6 M3 hr5 hb6 hl6 hC6 hM2 hat2 => ?_)
   have ho6 := ho5.go hb6 (fun e => (orow_ne hr4 ho5 (by decide)) e)
   have hm3 := hM2 _ hm2
   refine Zo Z Z Z (Za Z Z (Zn (ew_blockN (Ze (Zr (Zo Z Z Z (Zm Z Z (Zo Z Z Z (ow_sub Z Z Z (Zo Z Z Z (Za Z Z (Zn ?_))))))))))))
   have lz2 := (((hl3.trans hl4).trans hl5).trans hl6)
   exact ew_nxt (z1, (W (k1 - 1)), x2.2) hb3 fun a ha => ⟨M3, v6, (ha.sub ⟨Z, Z, Z, Z, trivial⟩), lz2, hC6, hr5, ho6, hm3⟩
  ·
   obtain rfl := hbb1.trans hc1
   exact Zu Z (cw_exit (ew_thenX (ew_thenX (ew_blockX (ew_brk (y1, k1, k2) hb3 fun a ha => ⟨M2, v2, (ha.sub ⟨Z, Z, Z, Z, trivial⟩), hl3, hC3, hw1, ho3, hm2⟩)))))
 ·
  rintro ⟨y2, k3, k4⟩ a w7 hlr2 ⟨M4, v7, hF2, hl7, hC7, hw4, ho7, hm4⟩
  subst hlr2
  refine ew_at (E := [(0, (.pointer (some ⟨g, 0, none⟩))), (1, (.int .i64 a_n)), (5, v7), (6, (.int .i64 k3))]) hF2 (Ze (cw_seq (cw_seq (Zr (Zo Z Z Z (Zm Z Z (Zo Z Z Z (Zm Z Z ?_))))))))
  have lz3 := ((hl1.trans hl2).trans hl7)
  replace h := bind_some h
  obtain ⟨x3, hx3, h⟩ := h
  refine Zo Z Z Z (Zk Z Z Tryd.call83 (w_spec_l20Rd_odd (hG.mono lz3) hC7.old (VRep.mono lz3 hxs) ho7 hm4 hx3) fun v10 w8 hv10 => ?_)
  obtain ⟨⟨hv10, ho8⟩, hb7⟩ := hv10
  have hl8 := Le.of_bx M4 hb7 (fun b e => (by rw [show b = g from e]; exact hm4))
  have hC8 := hC7.go hb7 (fun b e => Or.inr e)
  have hr6 := hw4.go hb7 (fun k hk e => (orow_ne hw4 ho7 (by decide)) (hk.trans (congrArg some e))) hl8 (fun _ h => h)
  obtain ⟨bb2, hbb2, rfl⟩ := vbool_ex hv10
  refine Zn (Ze ?_)
  replace h := Zc h
  rcases h with ⟨hc2, h⟩ | ⟨hc2, h⟩
  ·
   obtain rfl := hbb2.trans hc2
   refine Zt Z (cw_seq (Zr (Zo Z Z Z (Zm Z Z ?_))))
   replace h := bind_some h
   obtain ⟨x4, hx4, h⟩ := h
   refine Zo Z Z Z (Zk Z Z Tryd.call63 (w_spec_l20Rd_pick (hG.mono (lz3.trans hl8)) hC8.old (VRep.mono (lz3.trans hl8) hxs) ho8 hm4 hx4) fun v11 w9 hv11 => ?_)
   obtain ⟨⟨hv11, ho9⟩, hb8⟩ := hv11
   have hl9 := Le.of_bx M4 hb8 (fun b e => (by rw [show b = g from e]; exact hm4))
   have hC9 := hC8.go hb8 (fun b e => Or.inr e)
   have hr7 := hr6.go hb8 (fun k hk e => (orow_ne hr6 ho8 (by decide)) (hk.trans (congrArg some e))) hl9 (fun _ h => h)
   obtain rfl := Zi hv11
   refine Zo Z Z Z (ow_eqlI Z Z Z fun bb3 hbb3 => Zn (Ze ?_))
   replace h := Zc h
   rcases h with ⟨hc3, h⟩ | ⟨hc3, h⟩
   ·
    obtain rfl := hbb3.trans hc3
    refine Zt Z (Zr (Zo Z Z Z (Zm Z Z (Zo Z Z Z (Zm Z Z ?_)))))
    have lz4 := ((lz3.trans hl8).trans hl9)
    replace h := bind_some h
    obtain ⟨x5, hx5, h⟩ := h
    refine Zo Z Z Z (Zk Z Z Tryd.call47 (w_spec_l20Box (hG.mono lz4) hC9.old (VRep.mono lz4 hxs) ho9 hm4 hx5) fun v12 w10 hv12 => ?_)
    obtain ⟨⟨hv12, ho10⟩, hb9⟩ := hv12
    have hl10 := Le.of_bx M4 hb9 (fun b e => (by rw [show b = g from e]; exact hm4))
    have hC10 := hC9.go hb9 (fun b e => Or.inr e)
    have hr8 := hr7.go hb9 (fun k hk e => (orow_ne hr7 ho9 (by decide)) (hk.trans (congrArg some e))) hl10 (fun _ h => h)
    obtain ⟨A2, c2, rfl, hw5⟩ := open_Box hv12
    refine Zo Z Z Z (ow_buildSlice (R := RBox) (xs := [x5.1]) (cs := #[(.slice A2 x5.1.Sides.length c2)]) (e := 25) Z Z (by kernel_rfl) Z Z ⟨_, _, Z, hv12.cells, Z⟩ hC10 fun p3 w11 hw6 hb10 hl11 hC11 => ?_)
    have ho11 := ho10.no hb10
    have hr9 := hr8.no hb10
    replace h := bind_some h
    obtain ⟨z2, hz2, h⟩ := h
    refine Zo Z Z Z (ow_append (R := RBox) Z Z Z Z Tryd.underlying28 hi25 hz25 hs25 hy25 Z Z Z Z hr9 hw6 hz2 hC11 fun v13 w12 M5 hr10 hb11 hl12 hC12 hM3 hat3 => ?_)
    have ho12 := ho11.go hb11 (fun e => (orow_ne hr9 ho11 (by decide)) e)
    refine Zo Z Z Z (Za Z Z (Zn (Ze (cw_seq (Zr (Zo Z Z Z (Zm Z Z (Zo Z Z Z (Za Z Z (Zn (Ze (Zy ?_))))))))))))
    obtain rfl := sj h
    exact ew_ret (res1 Z (.tmp Z)) ⟨_, Z, ⟨(hr10.freezeBack hC12 hO), ho12⟩, hC12.bx⟩
   ·
    obtain rfl := hbb3.trans hc3
    refine Zu Z (Zr ?_)
    replace h := bind_some h
    obtain ⟨mk1, hmk1, h⟩ := h
    refine Zo Z Z Z (ow_make (R := RBox) Z Z Z Tryd.underlying28 hi25 hz25 hs25 hy25 Z Z (shut_Box vslice_nil) hmk1 hC9 fun v14 w13 M6 hr11 hb12 hl13 hC13 hM4 hat4 => ?_)
    have ho13 := ho9.no hb12
    refine Zo Z Z Z (Za Z Z (Zn (Ze (cw_seq (Zr (Zo Z Z Z (Zm Z Z (Zo Z Z Z (Za Z Z (Zn (Ze (Zy ?_))))))))))))
    obtain rfl := sj h
    exact ew_ret (res1 Z (.tmp Z)) ⟨_, Z, ⟨(hr11.freezeBack hC13 hO), ho13⟩, hC13.bx⟩
  ·
   obtain rfl := hbb2.trans hc2
   refine Zu Z (cw_skip (Ze (cw_seq (Zr (Zo Z Z Z (Zm Z Z (Zo Z Z Z (Za Z Z (Zn (Ze (Zy ?_)))))))))))
   obtain rfl := sj h
   exact ew_ret (res1 Z (.tmp Z)) ⟨_, Z, ⟨(hr6.freezeBack hC8 hO), ho8⟩, hC8.bx⟩

theorem w_spec_DrawRegionLess {w : World} {M : Nat → Prop} (hG : ARep (RArr 4 RShape) w M shapes ⟨0, 0, none⟩) (hO : ∀ b, M b → b < w.heap.size) {v0p : Value} {a_code : List Int} (h0 : VRep (RSlice RU8) w M a_code v0p) {r : Box × (List Box)} (h : F.spec_DrawRegionLess a_code = some r) :
  Calls Tryd.prog 19 [v0p].toArray w fun e w' => ∃ v, e = .returned v ∧ (∃ u0 u1, v = .tuple #[u0, u1] ∧ VRep RBox w' M r.1 u0 ∧ VRep (RSlice RBox) w' M r.2 u1) ∧ BX No w w' := by
 have hC : Cx No w M w M := Cx.start hO (fun _ e => e.elim)
 refine walk (N := 13) Tryd.func19 Z Tryd.ntmps19 Z (cw_seq (Zr (Zo Z Z Z (ow_alloc Z (Tryd.zeroValue25 _) hC fun g1 w1 hg1 hg2 ho1 hb1 hl1 hC1 => ?_))))
 have hm1 : (Add g1 M) g1 := .inl Z
 refine Zo Z Z Z (Za Z Z (Zn (Ze (cw_seq (Zr (Zo Z Z Z (Zm Z Z ?_)))))))
 replace h := bind_some h
 obtain ⟨x1, hx1, h⟩ := h
 refine Zo Z Z Z (Zk Z Z Tryd.call30 (w_spec_l20Open (hG.mono hl1) hC1.old (VRep.mono hl1 h0) hx1) fun v1 w2 hv1 => ?_)
 obtain ⟨⟨g2, A1, c1, rfl, hg3, ho2, hw1⟩, hb2⟩ := hv1
 have hl2 := (Le.no (Add g1 M) hb2).add hg3
 have hg4 := Nat.le_trans hC1.bx.size hg3
 have hC2 := (hC1.no hb2).add ho2.lt hg4
 have hn1 := Nat.ne_of_lt (Nat.lt_of_lt_of_le ho1.lt hg3)
 have ho3 := ho1.no hb2
 have hm2 : (Add g2 (Add g1 M)) g1 := .inr hm1
 have hm3 : (Add g2 (Add g1 M)) g2 := .inl Z
 refine Zo Z Z Z (Za Z Z (Zn (Ze (cw_seq (Zr (Zo Z Z Z (Zm Z Z ?_)))))))
 replace h := bind_some h
 obtain ⟨x2, hx2, h⟩ := h
 refine Zo Z Z Z (Zk Z Z Tryd.call47 (w_spec_l20Box (hG.mono (hl1.trans hl2)) hC2.old hw1 ho2 hm3 hx2) fun v2 w3 hv2 => ?_)
 obtain ⟨⟨hv2, ho4⟩, hb3⟩ := hv2
 have hl3 := Le.of_bx (Add g2 (Add g1 M)) hb3 (fun b e => (by rw [show b = g2 from e]; exact hm3))
 have hC3 := hC2.go hb3 (fun b e => (by rw [show b = g2 from e]; exact (.inl hg4)))
 have ho5 := ho3.go hb3 (fun e => hn1 e)
 refine lw_allocStore (R := RBox) Z Z Z Z Z Z Z Tryd.zeroValue25 Tryd.sizeOf25 Z Z Z (by simp) hv2 hC3 fun p1 w4 hp1 hb4 hl4 hC4 => ?_
 have ho6 := ho5.no hb4
 have ho7 := ho4.no hb4
 refine Zn (Ze (cw_seq ?_))
 replace h := bind_some h
 obtain ⟨x3, hx3, h⟩ := h
 have lz1 := (((hl1.trans hl2).trans hl3).trans hl4)
 have lz3 := (hl3.trans hl4)
 refine cw_sub (E' := [(2, (.pointer (some ⟨g1, 0, none⟩))), (3, (.slice none 0 0)), (4, (.pointer (some ⟨g2, 0, none⟩))), (5, (.pointer (some p1)))]) ⟨Z, Z, Z, Z, trivial⟩ (cw_drawC (g := g2) (T := 97) 3 1 [none, none, some 0] [#[(.slice A1 x1.1.length c1), (.int .i64 x2.2)], #[(.slice A1 x1.1.length c1), (.int .i64 x3.2)]] [PV RBox (Add g2 (Add g1 M)) x2.1, PEq (.pointer (some ⟨g2, 0, none⟩)), PV (RSlice RBox) (Add g2 (Add g1 M)) x3.1] (by kernel_rfl) Z (by kernel_rfl) (by kernel_rfl) ho7 ⟨(PV.monoY hm3 _ _), (PEq.monoY hm3 _), (PV.monoY hm3 _ _), trivial⟩ ⟨?_, ?_, ?_, trivial⟩ ?_)
 ·
  intro w6 D hS1 hd1
  have hl6 := leY hm3 hS1
  exact Zs (E' := [(5, (.pointer (some p1)))]) ⟨Z, trivial⟩ (Zp Z (Zl (R := RBox) Z Z (ARep.mono hl6 hp1) (Tryd.sizeOf25 _) (Tryd.isAgg25 _) fun v5 hv5 => ⟨BX.refl _ _, hv5⟩))
 ·
  intro w7 D hS2 hd2
  exact Zs (E' := [(4, (.pointer (some ⟨g2, 0, none⟩)))]) ⟨Z, trivial⟩ (Zp Z (Zm Z Z Zb))
 ·
  intro w8 D hS3 hd3
  obtain ⟨hS3, ho12⟩ := hS3
  have ho12 : Own w8 g2 97 #[(.slice A1 x1.1.length c1), (.int .i64 x2.2)] := ho12
  have hl8 := leY hm3 hS3
  have hC8 := hC4.go hS3 (fun b e => (by rw [show b = g2 from e]; exact (.inl hg4)))
  refine Zs (E' := [(11, (.pointer (some ⟨g2, 0, none⟩)))]) ⟨(dpE hd3 1 Z Z), trivial⟩ (Zp Z (Zk Z Z Tryd.call48 (w_spec_l20Region (hG.mono (lz1.trans hl8)) hC8.old (VRep.mono (lz3.trans hl8) hw1) ho12 hm3 hx3) fun v6 w9 hv6 => ?_))
  obtain ⟨⟨hv6, ho14⟩, hb6⟩ := hv6
  exact ⟨⟨⟨hS3.trans hb6, ho14⟩, hb6⟩, hv6⟩
 ·
  intro w10 D hS4 hd4
  have d2 : PV RBox (Add g2 (Add g1 M)) x2.1 (D 0) w10 := dpA hd4 0 Z
  have d4 : PV (RSlice RBox) (Add g2 (Add g1 M)) x3.1 (D 2) w10 := dpA hd4 2 Z
  obtain ⟨hS4, ho16⟩ := hS4
  have ho16 : Own w10 g2 97 #[(.slice A1 x1.1.length c1), (.int .i64 x3.2)] := ho16
  have hC10 := hC4.go hS4 (fun b e => (by rw [show b = g2 from e]; exact (.inl hg4)))
  have ho17 := ho6.go hS4 (fun e => hn1 e)
  generalize hq1 : (D 0) = v7 at d2
  generalize hq2 : (D 2) = v8 at d4
  refine lw_sub (E' := [(10, v7), (12, v8), (2, (.pointer (some ⟨g1, 0, none⟩))), (3, (.slice none 0 0)), (4, (.pointer (some ⟨g2, 0, none⟩))), (5, (.pointer (some p1)))]) ⟨(congrArg some hq1), (congrArg some hq2), Z, Z, Z, Z, trivial⟩ ?_
  obtain ⟨A2, c2, rfl, hw2⟩ := open_Box d2
  refine lw_op0 Z Z (ow_store (X := No) (us := [(.slice A2 x2.1.Sides.length c2)]) (cs' := #[(.slice A2 x2.1.Sides.length c2)]) Z Z Z Z ho17 (Tryd.sizeOf25 _) Z Z Z Z hm2 (.inl hg2) Z hC10 fun w11 ho18 hb7 hl11 hC11 => Zo Z Z Z (Za Z Z (Zn (Ze (Zy ?_)))))
  have hw3 : VRep RBox w11 (Add g2 (Add g1 M)) ({ Sides := x2.1.Sides } : Box) (.agg #[(.slice A2 x2.1.Sides.length c2)]) := shut_Box (VRep.mono hl11 hw2)
  obtain rfl := sj h
  exact ew_ret (res2 Z (.cell Z (own_loadVarA ho18 (Tryd.isAgg25 _) (Tryd.sizeOf25 _) Z)) (.tmp Z)) ⟨_, Z, ⟨_, _, Z, (hw3.mono hC11.back), (VRep.mono hC11.back (VRep.mono hl11 d4))⟩, hC11.bx⟩

theorem w_impl_topValid {w : World} {M : Nat → Prop} (_hG : ARep (RArr 4 RShape) w M shapes ⟨0, 0, none⟩) (hO : ∀ b, M b → b < w.heap.size) {a_top : Int} {r : Bool} (h : F.impl_topValid a_top = some r) :
  Calls Tryd.prog 94 [(.int .i64 a_top)].toArray w fun e w' => ∃ v, e = .returned v ∧ VRep RBool w' M r v ∧ BX No w w' := by
 have hC : Cx No w M w M := Cx.start hO (fun _ e => e.elim)
 clear _hG
 refine walk (N := 9) Tryd.func94 Z Tryd.ntmps94 Z (cw_seq (Zr (Zo Z Z Z (Za Z Z (Zn (Ze (cw_seq (Zr (Zo Z Z Z (Zm Z Z (Zo Z Z Z (ow_geq Z Z Z fun bb1 hbb1 => Zo Z Z Z (Zm Z Z ?_)))))))))))))
 replace h := Zc h
 rcases h with ⟨hc1, h⟩ | ⟨hc1, h⟩
 ·
  obtain rfl := hbb1.trans hc1
  refine lw_on Z Z Z Z Z Z (Zm Z Z (lw_on Z Z Z Z Z Z (ow_leq Z Z Z fun bb2 hbb2 => Zo Z Z Z (ow_pickT Z Z Z (Zo Z Z Z (Za Z Z (Zn (Ze (Zy ?_)))))))))
  obtain rfl := sj h
  exact ew_ret (res1 Z (.tmp Z)) ⟨_, Z, ((vbool_of hbb2)), hC.bx⟩
 ·
  obtain rfl := hbb1.trans hc1
  refine lw_off Z Z Z Z Z Z (lw_off Z Z Z Z Z Z (Zo Z Z Z (ow_pickF Z Z Z (Zo Z Z Z (Za Z Z (Zn (Ze (Zy ?_))))))))
  obtain rfl := sj h
  exact ew_ret (res1 Z (.tmp Z)) ⟨_, Z, ((vbool _)), hC.bx⟩

theorem w_impl_SpansValid {w : World} {M : Nat → Prop} (hG : ARep (RArr 4 RShape) w M shapes ⟨0, 0, none⟩) (hO : ∀ b, M b → b < w.heap.size) {v0p : Value} {a_list : List Span} (h0 : VRep (RSlice RSpan) w M a_list v0p) {a_top : Int} {r : Bool} (h : F.impl_SpansValid a_list a_top = some r) :
  Calls Tryd.prog 67 [v0p, (.int .i64 a_top)].toArray w fun e w' => ∃ v, e = .returned v ∧ VRep RBool w' M r v ∧ BX No w w' := by
 have hC : Cx No w M w M := Cx.start hO (fun _ e => e.elim)
 refine walk (N := 43) Tryd.func67 Z Tryd.ntmps67 Z (cw_seq (Zr (Zo Z Z Z (Za Z Z (Zn (Ze (cw_seq (cw_seq (Zr (Zo Z Z Z (Zm Z Z ?_)))))))))))
 replace h := bind_some h
 obtain ⟨x1, hx1, h⟩ := h
 refine Zo Z Z Z (Zk Z Z Tryd.call94 (w_impl_topValid hG hC.old hx1) fun v1 w1 hv1 => ?_)
 obtain ⟨hv1, hb1⟩ := hv1
 have hl1 := Le.no M hb1
 have hC1 := hC.no hb1
 obtain rfl := vbool_eq hv1
 refine Zo Z Z Z (ow_not Z Z (Zo Z Z Z (Zm Z Z ?_)))
 replace h := Zc h
 rcases h with ⟨hc1, h⟩ | ⟨hc1, h⟩
 ·
  subst hc1
  refine lw_on Z Z Z Z Z Z (Zm Z Z (lw_on Z Z Z Z Z Z (ow_len Z Z (VRep.mono hl1 h0) Tryd.underlying59 Z (lw_on Z Z Z Z Z Z (ow_gtr Z Z Z fun bb1 hbb1 => Zo Z Z Z (ow_pickF Z Z Z (Zn (Ze ?_))))))))
  replace h := Zc h
  rcases h with ⟨hc2, h⟩ | ⟨hc2, h⟩
  ·
   obtain rfl := hbb1.trans hc2
   refine Zt Z (cw_seq (Zr (Zo Z Z Z (Za Z Z (Zn (Ze (Zy (Zh ?_))))))))
   obtain rfl := sj h
   exact ew_ret (res1 Z (.tmp Z)) ⟨_, Z, ((vbool _)), hC1.bx⟩
  ·
   obtain rfl := hbb1.trans hc2
   refine Zu Z (cw_skip (Ze (cw_seq (Zr (Zo Z Z Z (Za Z Z (Zn (Ze (cw_seq (cw_seq (Zr (Zo Z Z Z (Zm Z Z (Zo Z Z Z (ow_len Z Z (VRep.mono hl1 h0) Tryd.underlying59 Z (Zo Z Z Z (Zm Z Z (Zn (Ze ?_)))))))))))))))))))
   replace h := bind_some h
   obtain ⟨lr1, hlr1, h⟩ := h
   refine cw_for hlr1 (fun s a w' => ∃ (M' : Nat → Prop), Fits 43 [(1, (.int .i64 a_top)), (5, (.int .i64 s.1)), (16, v0p), (17, (.int .i64 (a_list.length : Int))), (18, (.int .i64 s.2))] a ∧ Le w1 M w' M' ∧ Cx No w M w' M') ?_ ?_ ?_
   ·
    intro a ha
    exact ⟨M, ha.sub ⟨Z, Z, Z, Z, Z, trivial⟩, Le.refl _ _, hC1⟩
   ·
    rintro ⟨k1, k2⟩ a w2 sr1 ⟨M1, hF1, hl2, hC2⟩ hb2 hR1
    refine cw_at (E := [(1, (.int .i64 a_top)), (5, (.int .i64 k1)), (16, v0p), (17, (.int .i64 (a_list.length : Int))), (18, (.int .i64 k2))]) hF1 (cw_seq (Zr (Zo Z Z Z (ow_lss Z Z Z fun bb2 hbb2 => Zn (Ze (cw_seq ?_))))))
    replace hb2 := Zc hb2
    rcases hb2 with ⟨hc3, hb2⟩ | ⟨hc3, hb2⟩
    ·
     obtain rfl := hbb2.trans hc3
     refine Zt Z (cw_skip (Ze (cw_seq (cw_block (cw_seq (Zr ?_))))))
     replace hb2 := bind_some hb2
     obtain ⟨x2, hx2, hb2⟩ := hb2
     refine Zo Z Z Z (Zx (R := RSpan) Z Z Z (VRep.mono (hl1.trans hl2) h0) Tryd.underlying59 (Tryd.sizeOf69 _) hx2 fun p1 hp1 => Zo Z Z Z (Zl (R := RSpan) Z Z hp1 (Tryd.sizeOf69 _) (Tryd.isAgg69 _) fun v4 hv4 => lw_allocStore (R := RSpan) Z Z Z Z Z Z Z Tryd.zeroValue69 Tryd.sizeOf69 Z Z Z (by simp) hv4 hC2 fun p2 w3 hp2 hb3 hl3 hC3 => Zn (Ze (cw_seq (cw_seq (Zr (Zo Z Z Z (Zf Z Z Tryd.underlying69 Z (Tryd.sizeOf3 _) (Zo Z Z Z (Zl (R := RInt) Z Z (hp2.fld fld_Span_Lo) (Tryd.sizeOf3 _) (Tryd.isAgg3 _) fun v5 hv5 => ?_))))))))))
     obtain rfl := Zi hv5
     refine Zo Z Z Z (Zm Z Z (Zo Z Z Z (ow_add Z Z Z (Zo Z Z Z (ow_leq Z Z Z fun bb3 hbb3 => Zo Z Z Z (Zm Z Z ?_))))))
     replace hb2 := Zc hb2
     rcases hb2 with ⟨hc4, hb2⟩ | ⟨hc4, hb2⟩
     ·
      obtain rfl := hbb3.trans hc4
      refine lw_off Z Z Z Z Z Z (lw_off Z Z Z Z Z Z (lw_off Z Z Z Z Z Z (lw_off Z Z Z Z Z Z (lw_off Z Z Z Z Z Z (Zo Z Z Z (ow_pickT Z Z Z (Zo Z Z Z (Zm Z Z (lw_off Z Z Z Z Z Z (lw_off Z Z Z Z Z Z (lw_off Z Z Z Z Z Z (lw_off Z Z Z Z Z Z (Zo Z Z Z (ow_pickT Z Z Z (Zn (Ze (Zt Z (cw_seq (Zr (Zo Z Z Z (Za Z Z (Zn (Ze (Zy (Zh (ew_blockR (Zh (Zh ?_))))))))))))))))))))))))))))
      refine ew_blockR (ew_brkR (Zh ?_))
      have e1 := hR1 _ (sj hb2).symm
      subst e1
      obtain rfl := sj h
      exact ew_ret (res1 Z (.tmp Z)) ⟨_, Z, ((vbool _)), hC3.bx⟩
     ·
      obtain rfl := hbb3.trans hc4
      refine lw_on Z Z Z Z Z Z (Zf Z Z Tryd.underlying69 Z (Tryd.sizeOf3 _) (lw_on Z Z Z Z Z Z (Zl (R := RInt) Z Z (hp2.fld fld_Span_Lo) (Tryd.sizeOf3 _) (Tryd.isAgg3 _) fun v6 hv6 => ?_)))
      obtain rfl := Zi hv6
      refine lw_on Z Z Z Z Z Z (Zf Z Z Tryd.underlying69 Z (Tryd.sizeOf3 _) (lw_on Z Z Z Z Z Z (Zl (R := RInt) Z Z (hp2.fld fld_Span_Hi) (Tryd.sizeOf3 _) (Tryd.isAgg3 _) fun v7 hv7 => ?_)))
      obtain rfl := Zi hv7
      refine lw_on Z Z Z Z Z Z (ow_gtr Z Z Z fun bb4 hbb4 => Zo Z Z Z (ow_pickF Z Z Z (Zo Z Z Z (Zm Z Z ?_))))
      replace hb2 := Zc hb2
      rcases hb2 with ⟨hc5, hb2⟩ | ⟨hc5, hb2⟩
      ·
       obtain rfl := hbb4.trans hc5
       refine lw_off Z Z Z Z Z Z (lw_off Z Z Z Z Z Z (lw_off Z Z Z Z Z Z (lw_off Z Z Z Z Z Z (Zo Z Z Z (ow_pickT Z Z Z (Zn (Ze (Zt Z (cw_seq (Zr (Zo Z Z Z (Za Z Z (Zn (Ze (Zy (Zh (ew_blockR (Zh (Zh (ew_blockR (ew_brkR (Zh ?_))))))))))))))))))))))
       have e2 := hR1 _ (sj hb2).symm
       subst e2
       obtain rfl := sj h
       exact ew_ret (res1 Z (.tmp Z)) ⟨_, Z, ((vbool _)), hC3.bx⟩
      ·
       obtain rfl := hbb4.trans hc5
       refine lw_on Z Z Z Z Z Z (Zf Z Z Tryd.underlying69 Z (Tryd.sizeOf3 _) (lw_on Z Z Z Z Z Z (Zl (R := RInt) Z Z (hp2.fld fld_Span_Hi) (Tryd.sizeOf3 _) (Tryd.isAgg3 _) fun v8 hv8 => ?_)))
       obtain rfl := Zi hv8
       refine lw_on Z Z Z Z Z Z (Zm Z Z (lw_on Z Z Z Z Z Z (ow_gtr Z Z Z fun bb5 hbb5 => Zo Z Z Z (ow_pickF Z Z Z (Zn (Ze ?_))))))
       replace hb2 := Zc hb2
       rcases hb2 with ⟨hc6, hb2⟩ | ⟨hc6, hb2⟩
       ·
        obtain rfl := hbb5.trans hc6
        refine Zt Z (cw_seq (Zr (Zo Z Z Z (Za Z Z (Zn (Ze (Zy (Zh (ew_blockR (Zh (Zh (ew_blockR (ew_brkR (Zh ?_))))))))))))))
        have e3 := hR1 _ (sj hb2).symm
        subst e3
        obtain rfl := sj h
        exact ew_ret (res1 Z (.tmp Z)) ⟨_, Z, ((vbool _)), hC3.bx⟩
       ·
        obtain rfl := hbb5.trans hc6
        refine Zu Z (cw_skip (Ze (Zr (Zo Z Z Z (Zf Z Z Tryd.underlying69 Z (Tryd.sizeOf3 _) (Zo Z Z Z (Zl (R := RInt) Z Z (hp2.fld fld_Span_Hi) (Tryd.sizeOf3 _) (Tryd.isAgg3 _) fun v9 hv9 => ?_)))))))
        obtain rfl := Zi hv9
        exact Zo Z Z Z (Za Z Z (Zn (ew_blockN (Ze (Zr (Zo Z Z Z (ow_add Z Z Z (Zo Z Z Z (Zm Z Z (Zn (ew_nxt (x2.Hi, (W (k2 + 1))) hb2 fun a ha => ⟨M1, (ha.sub ⟨Z, Z, Z, Z, Z, trivial⟩), (hl2.trans hl3), hC3⟩)))))))))))
    ·
     obtain rfl := hbb2.trans hc3
     exact Zu Z (cw_exit (ew_thenX (ew_thenX (ew_blockX (ew_brk (k1, k2) hb2 fun a ha => ⟨M1, (ha.sub ⟨Z, Z, Z, Z, Z, trivial⟩), hl2, hC2⟩)))))
   ·
    rintro ⟨k3, k4⟩ a w4 hlr2 ⟨M2, hF2, hl4, hC4⟩
    subst hlr2
    refine ew_at (E := [(1, (.int .i64 a_top)), (5, (.int .i64 k3)), (16, v0p), (17, (.int .i64 (a_list.length : Int))), (18, (.int .i64 k4))]) hF2 (Ze (cw_seq (Zr (Zo Z Z Z (Za Z Z (Zn (Ze (Zy ?_))))))))
    obtain rfl := sj h
    exact ew_ret (res1 Z (.tmp Z)) ⟨_, Z, ((vbool _)), hC4.bx⟩
 ·
  subst hc1
  refine lw_off Z Z Z Z Z Z (lw_off Z Z Z Z Z Z (lw_off Z Z Z Z Z Z (Zo Z Z Z (ow_pickT Z Z Z (Zn (Ze (Zt Z (cw_seq (Zr (Zo Z Z Z (Za Z Z (Zn (Ze (Zy (Zh ?_)))))))))))))))
  obtain rfl := sj h
  exact ew_ret (res1 Z (.tmp Z)) ⟨_, Z, ((vbool _)), hC1.bx⟩

theorem w_impl_FieldTop {w : World} {M : Nat → Prop} (hG : ARep (RArr 4 RShape) w M shapes ⟨0, 0, none⟩) (hO : ∀ b, M b → b < w.heap.size) {a_n : Int} {r : Int} (h : F.impl_FieldTop a_n = some r) :
  Calls Tryd.prog 68 [(.int .i64 a_n)].toArray w fun e w' => ∃ v, e = .returned v ∧ VRep RInt w' M r v ∧ BX No w w' := by
 have hC : Cx No w M w M := Cx.start hO (fun _ e => e.elim)
 refine walk (N := 13) Tryd.func68 Z Tryd.ntmps68 Z (cw_seq (Zr (Zo Z Z Z (Za Z Z (Zn (Ze (cw_seq (cw_seq (Zr (Zo Z Z Z (Zm Z Z (Zo Z Z Z (ow_lss Z Z Z fun bb1 hbb1 => Zo Z Z Z (Zm Z Z ?_))))))))))))))
 replace h := Zc h
 rcases h with ⟨hc1, h⟩ | ⟨hc1, h⟩
 ·
  obtain rfl := hbb1.trans hc1
  refine lw_off Z Z Z Z Z Z (lw_off Z Z Z Z Z Z (Zo Z Z Z (ow_pickT Z Z Z (Zn (Ze (Zt Z (cw_seq (Zr (Zo Z Z Z (Za Z Z (Zn (Ze (Zy (Zh ?_))))))))))))))
  obtain rfl := sj h
  exact ew_ret (res1 Z (.tmp Z)) ⟨_, Z, ((vint _)), hC.bx⟩
 ·
  obtain rfl := hbb1.trans hc1
  refine lw_on Z Z Z Z Z Z (Zm Z Z (lw_on Z Z Z Z Z Z (ow_geq Z Z Z fun bb2 hbb2 => Zo Z Z Z (ow_pickF Z Z Z (Zn (Ze ?_))))))
  replace h := Zc h
  rcases h with ⟨hc2, h⟩ | ⟨hc2, h⟩
  ·
   obtain rfl := hbb2.trans hc2
   refine Zt Z (cw_seq (Zr (Zo Z Z Z (Za Z Z (Zn (Ze (Zy (Zh ?_))))))))
   obtain rfl := sj h
   exact ew_ret (res1 Z (.tmp Z)) ⟨_, Z, ((vint _)), hC.bx⟩
  ·
   obtain rfl := hbb2.trans hc2
   refine Zu Z (cw_skip (Ze (cw_seq (Zr (Zo Z Z Z (Zm Z Z ?_))))))
   replace h := bind_some h
   obtain ⟨x1, hx1, h⟩ := h
   refine Zo Z Z Z (ow_indexArr (R := RShape) Z Z Z hG Tryd.underlying126 (Tryd.sizeOf125 _) hx1 fun p1 hp1 => Zo Z Z Z (Zf Z Z Tryd.underlying125 Z (Tryd.sizeOf3 _) (Zo Z Z Z (Zl (R := RInt) Z Z (hp1.fld fld_Shape_top) (Tryd.sizeOf3 _) (Tryd.isAgg3 _) fun v1 hv1 => ?_))))
   obtain rfl := Zi hv1
   refine Zo Z Z Z (Za Z Z (Zn (Ze (Zy ?_))))
   obtain rfl := sj h
   exact ew_ret (res1 Z (.tmp Z)) ⟨_, Z, ((vint _)), hC.bx⟩

theorem w_impl_BoxValid {w : World} {M : Nat → Prop} (hG : ARep (RArr 4 RShape) w M shapes ⟨0, 0, none⟩) (hO : ∀ b, M b → b < w.heap.size) {v0p : Value} {a_b : Box} (h0 : VRep RBox w M a_b v0p) {r : Bool} (h : F.impl_BoxValid a_b = some r) :
  Calls Tryd.prog 31 [v0p].toArray w fun e w' => ∃ v, e = .returned v ∧ VRep RBool w' M r v ∧ BX No w w' := by
 have hC : Cx No w M w M := Cx.start hO (fun _ e => e.elim)
 refine walk (N := 23) Tryd.func31 Z Tryd.ntmps31 Z (cw_seq (Zr (Zo Z Z Z (ow_box (R := RBox) Z Z h0 hC fun p1 w1 hp1 hb1 hl1 hC1 => Zo Z Z Z (Za Z Z (Zn (Ze (cw_seq (cw_seq (Zr (Zo Z Z Z (Zf Z Z Tryd.underlying25 Z (Tryd.sizeOf23 _) (Zo Z Z Z (Zl (R := (RSlice (RSlice RSpan))) Z Z (hp1.fld fld_Box_Sides) (Tryd.sizeOf23 _) (Tryd.isAgg23 _) fun v1 hv1 => Zo Z Z Z (ow_len Z Z hv1 Tryd.underlying23 Z (Zo Z Z Z (ow_neqI Z Z Z fun bb1 hbb1 => Zn (Ze ?_))))))))))))))))))
 replace h := Zc h
 rcases h with ⟨hc1, h⟩ | ⟨hc1, h⟩
 ·
  obtain rfl := hbb1.trans hc1
  refine Zt Z (cw_seq (Zr (Zo Z Z Z (Za Z Z (Zn (Ze (Zy (Zh ?_))))))))
  obtain rfl := sj h
  exact ew_ret (res1 Z (.tmp Z)) ⟨_, Z, ((vbool _)), hC1.bx⟩
 ·
  obtain rfl := hbb1.trans hc1
  refine Zu Z (cw_skip (Ze (cw_seq (cw_seq (Zr (Zo Z Z Z (Zf Z Z Tryd.underlying25 Z (Tryd.sizeOf23 _) (Zo Z Z Z (Zl (R := (RSlice (RSlice RSpan))) Z Z (hp1.fld fld_Box_Sides) (Tryd.sizeOf23 _) (Tryd.isAgg23 _) fun v2 hv2 => Zo Z Z Z (ow_len Z Z hv2 Tryd.underlying23 Z (Zo Z Z Z (Zm Z Z (Zn (Ze ?_))))))))))))))
  replace h := bind_some h
  obtain ⟨lr1, hlr1, h⟩ := h
  refine cw_for hlr1 (fun s a w' => ∃ (M' : Nat → Prop), Fits 23 [(10, v2), (11, (.int .i64 (a_b.Sides.length : Int))), (12, (.int .i64 s))] a ∧ Le w1 M w' M' ∧ Cx No w M w' M') ?_ ?_ ?_
  ·
   intro a ha
   exact ⟨M, ha.sub ⟨Z, Z, Z, trivial⟩, Le.refl _ _, hC1⟩
  ·
   rintro k1 a w2 sr1 ⟨M1, hF1, hl2, hC2⟩ hb2 hR1
   refine cw_at (E := [(10, v2), (11, (.int .i64 (a_b.Sides.length : Int))), (12, (.int .i64 k1))]) hF1 (cw_seq (Zr (Zo Z Z Z (ow_lss Z Z Z fun bb2 hbb2 => Zn (Ze (cw_seq ?_))))))
   replace hb2 := Zc hb2
   rcases hb2 with ⟨hc2, hb2⟩ | ⟨hc2, hb2⟩
   ·
    obtain rfl := hbb2.trans hc2
    refine Zt Z (cw_skip (Ze (cw_seq (cw_block (cw_seq (Zr (Zo Z Z Z (Zm Z Z ?_))))))))
    replace hb2 := bind_some hb2
    obtain ⟨x1, hx1, hb2⟩ := hb2
    refine Zo Z Z Z (Zx (R := (RSlice RSpan)) Z Z Z (VRep.mono hl2 hv2) Tryd.underlying23 (Tryd.sizeOf59 _) hx1 fun p2 hp2 => Zo Z Z Z (Zl (R := (RSlice RSpan)) Z Z hp2 (Tryd.sizeOf59 _) (Tryd.isAgg59 _) fun v4 hv4 => Zo Z Z Z (Za Z Z (Zo Z Z Z (Za Z Z (Zn (Ze (cw_seq (Zr (Zo Z Z Z (Zm Z Z (Zo Z Z Z (Zm Z Z ?_)))))))))))))
    replace hb2 := bind_some hb2
    obtain ⟨x2, hx2, hb2⟩ := hb2
    refine Zo Z Z Z (Zk Z Z Tryd.call68 (w_impl_FieldTop (hG.mono (hl1.trans hl2)) hC2.old hx2) fun v5 w3 hv5 => ?_)
    obtain ⟨hv5, hb3⟩ := hv5
    have hl3 := Le.no M1 hb3
    have hC3 := hC2.no hb3
    obtain rfl := Zi hv5
    replace hb2 := bind_some hb2
    obtain ⟨x3, hx3, hb2⟩ := hb2
    have lz1 := ((hl1.trans hl2).trans hl3)
    refine Zo Z Z Z (Zk Z Z Tryd.call67 (w_impl_SpansValid (hG.mono lz1) hC3.old (VRep.mono hl3 hv4) hx3) fun v6 w4 hv6 => ?_)
    obtain ⟨hv6, hb4⟩ := hv6
    have hl4 := Le.no M1 hb4
    have hC4 := hC3.no hb4
    obtain rfl := vbool_eq hv6
    refine Zo Z Z Z (ow_not Z Z (Zn (Ze ?_)))
    replace hb2 := Zc hb2
    rcases hb2 with ⟨hc3, hb2⟩ | ⟨hc3, hb2⟩
    ·
     subst hc3
     refine Zu Z (cw_skip (ew_blockN (Ze (Zr (Zo Z Z Z (ow_add Z Z Z (Zo Z Z Z (Zm Z Z (Zn ?_)))))))))
     have lz2 := ((hl2.trans hl3).trans hl4)
     exact ew_nxt (W (k1 + 1)) hb2 fun a ha => ⟨M1, (ha.sub ⟨Z, Z, Z, trivial⟩), lz2, hC4⟩
    ·
     subst hc3
     refine Zt Z (cw_seq (Zr (Zo Z Z Z (Za Z Z (Zn (Ze (Zy (ew_blockR (Zh (Zh (ew_blockR (ew_brkR (Zh ?_)))))))))))))
     have e1 := hR1 _ (sj hb2).symm
     subst e1
     obtain rfl := sj h
     exact ew_ret (res1 Z (.tmp Z)) ⟨_, Z, ((vbool _)), hC4.bx⟩
   ·
    obtain rfl := hbb2.trans hc2
    exact Zu Z (cw_exit (ew_thenX (ew_thenX (ew_blockX (ew_brk k1 hb2 fun a ha => ⟨M1, (ha.sub ⟨Z, Z, Z, trivial⟩), hl2, hC2⟩)))))
  ·
   rintro k2 a w5 hlr2 ⟨M2, hF2, hl5, hC5⟩
   subst hlr2
   refine ew_at (E := [(10, v2), (11, (.int .i64 (a_b.Sides.length : Int))), (12, (.int .i64 k2))]) hF2 (Ze (cw_seq (Zr (Zo Z Z Z (Za Z Z (Zn (Ze (Zy ?_))))))))
   obtain rfl := sj h
   exact ew_ret (res1 Z (.tmp Z)) ⟨_, Z, ((vbool _)), hC5.bx⟩

theorem w_impl_sidesOf {w : World} {M : Nat → Prop} (_hG : ARep (RArr 4 RShape) w M shapes ⟨0, 0, none⟩) (hO : ∀ b, M b → b < w.heap.size) {v0p : Value} {a_b : Box} (h0 : VRep RBox w M a_b v0p) {r : (List (List Span))} (h : F.impl_sidesOf a_b = some r) :
  Calls Tryd.prog 32 [v0p].toArray w fun e w' => ∃ v, e = .returned v ∧ VRep (RArr 4 (RSlice RSpan)) w' M r v ∧ BX No w w' := by
 have hC : Cx No w M w M := Cx.start hO (fun _ e => e.elim)
 clear _hG
 refine walk (N := 7) Tryd.func32 Z Tryd.ntmps32 Z (cw_seq (Zr (Zo Z Z Z (ow_box (R := RBox) Z Z h0 hC fun p1 w1 hp1 hb1 hl1 hC1 => Zo Z Z Z (ow_alloc Z (Tryd.zeroValue61 _) hC1 fun g1 w2 hg1 hg2 ho1 hb2 hl2 hC2 => ?_)))))
 have hm1 : (Add g1 M) g1 := .inl Z
 have ho2 : OwnA (RArr 4 (RSlice RSpan)) w2 (Add g1 M) g1 61 [([] : List Span), ([] : List Span), ([] : List Span), ([] : List Span)] := OwnA.of ho1 ⟨Z, ⟨_, _, Z, (vslice_nil (R := RSpan) (w := w2) (M := (Add g1 M))).cells, _, _, Z, (vslice_nil (R := RSpan) (w := w2) (M := (Add g1 M))).cells, _, _, Z, (vslice_nil (R := RSpan) (w := w2) (M := (Add g1 M))).cells, _, _, Z, (vslice_nil (R := RSpan) (w := w2) (M := (Add g1 M))).cells, Z⟩⟩
 refine Zn (Ze (cw_seq (Zr (Zo Z Z Z (Zf Z Z Tryd.underlying25 Z (Tryd.sizeOf23 _) (Zo Z Z Z (Zl (R := (RSlice (RSlice RSpan))) Z Z (ARep.mono hl2 (hp1.fld fld_Box_Sides)) (Tryd.sizeOf23 _) (Tryd.isAgg23 _) fun v1 hv1 => ?_)))))))
 replace h := bind_some h
 obtain ⟨y1, hy1, h⟩ := h
 refine Zo Z Z Z (ow_s2ap Z Z hv1 Tryd.underlying61 (arrF_some hy1).2 (by decide) fun p2 hp2 => ?_)
 rw [← (arrF_some hy1).1] at hp2
 refine Zo Z Z Z (Zl (R := (RArr 4 (RSlice RSpan))) Z Z hp2 (Tryd.sizeOf61 _) (Tryd.isAgg61 _) fun v2 hv2 => ?_)
 obtain ⟨cs1, h1, h2⟩ := ho2.own
 refine lw_op0 Z Z (ow_storeA (X := No) (R := (RArr 4 (RSlice RSpan))) Z Z Z Z h1 h2 (Tryd.sizeOf61 _) hv2 hm1 (.inl hg2) hC2 fun w3 ho3 hb3 hl3 hC3 => Zn (Ze (Zy ?_)))
 obtain rfl := sj h
 obtain ⟨v3, hq1, hw1⟩ := resA ho3 (Tryd.sizeOf61 _) (Tryd.isAgg61 _) rfl
 exact ew_ret (res1 Z (.cell Z hq1)) ⟨_, Z, (hw1.mono hC3.back), hC3.bx⟩

theorem w_impl_sides_box {w : World} {M : Nat → Prop} (_hG : ARep (RArr 4 RShape) w M shapes ⟨0, 0, none⟩) (hO : ∀ b, M b → b < w.heap.size) {v0p : Value} {a_s : List (List Span)} (h0 : VRep (RArr 4 (RSlice RSpan)) w M a_s v0p) {r : Box} (h : F.impl_sides_box a_s = some r) :
  Calls Tryd.prog 46 [v0p].toArray w fun e w' => ∃ v, e = .returned v ∧ VRep RBox w' M r v ∧ BX No w w' := by
 obtain ⟨i59, hi59, hz59, hs59, hy59⟩ := info59
 obtain ⟨i69, hi69, hz69, hs69, hy69⟩ := info69
 have hC : Cx No w M w M := Cx.start hO (fun _ e => e.elim)
 clear _hG
 refine walk (N := 21) Tryd.func46 Z Tryd.ntmps46 Z (cw_seq (Zr (Zo Z Z Z (ow_box (R := (RArr 4 (RSlice RSpan))) Z Z h0 hC fun p1 w1 hp1 hb1 hl1 hC1 => Zo Z Z Z (ow_alloc Z (Tryd.zeroValue25 _) hC1 fun g1 w2 hg1 hg2 ho1 hb2 hl2 hC2 => ?_)))))
 have hm1 : (Add g1 M) g1 := .inl Z
 refine Zn (Ze (cw_seq (Zr ?_)))
 replace h := bind_some h
 obtain ⟨mk1, hmk1, h⟩ := h
 refine Zo Z Z Z (ow_make (R := (RSlice RSpan)) Z Z Z Tryd.underlying23 hi59 hz59 hs59 hy59 Z Z vslice_nil hmk1 hC2 fun v1 w3 M1 hr1 hb3 hl3 hC3 hM1 hat1 => ?_)
 have ho2 := ho1.no hb3
 have hm2 := hM1 _ hm1
 obtain ⟨A1, c1, rfl⟩ := hr1.len
 refine Zo Z Z Z (ow_build (v := .agg #[(.slice A1 mk1.length c1)]) Z Z (by kernel_rfl) (Zo Z Z Z (ow_alloc Z (Tryd.zeroValue25 _) hC3 fun g2 w4 hg3 hg4 ho3 hb4 hl4 hC4 => ?_)))
 have hn1 := Nat.ne_of_lt (Nat.lt_of_lt_of_le ho2.lt hg3)
 have ho4 := ho2.no hb4
 have hm3 : (Add g2 M1) g1 := .inr hm2
 have hr2 := hr1.add hb4 hg3
 have hm4 : (Add g2 M1) g2 := .inl Z
 refine lw_op0 Z Z (ow_store (X := No) (us := [(.slice A1 mk1.length c1)]) (cs' := #[(.slice A1 mk1.length c1)]) Z Z Z Z ho3 (Tryd.sizeOf25 _) Z Z Z Z hm4 (.inl hg4) Z hC4 fun w5 ho5 hb5 hl5 hC5 => ?_)
 have ho6 := ho4.go hb5 (fun e => hn1 e)
 have hr3 := hr2.go hb5 (fun k hk e => (orow_ne hr2 ho3 (by decide)) (hk.trans (congrArg some e))) hl5 (fun _ h => h)
 refine Zn (Ze (cw_seq (cw_seq (Zr ?_))))
 have lz1 := (((hl2.trans hl3).trans hl4).trans hl5)
 refine Zo Z Z Z (Zl (R := (RArr 4 (RSlice RSpan))) Z Z (ARep.mono lz1 hp1) (Tryd.sizeOf61 _) (Tryd.isAgg61 _) fun v2 hv2 => Zo Z Z Z (Zm Z Z (Zn (Ze ?_))))
 replace h := bind_some h
 obtain ⟨lr1, hlr1, h⟩ := h
 refine cw_for hlr1 (fun s a w' => ∃ (M' : Nat → Prop), Fits 21 [(2, (.pointer (some ⟨g1, 0, none⟩))), (3, (.pointer (some ⟨g2, 0, none⟩))), (8, v2), (9, (.int .i64 s.1))] a ∧ Le w5 (Add g2 M1) w' M' ∧ Cx No w M w' M' ∧ OwnRow (RSlice RSpan) w.heap.size 59 w' M' s.2 (.slice A1 mk1.length c1) ∧ Own w' g1 25 #[(.slice none 0 0)] ∧ M' g1 ∧ Own w' g2 25 #[(.slice A1 mk1.length c1)] ∧ M' g2) ?_ ?_ ?_
 ·
  intro a ha
  exact ⟨(Add g2 M1), ha.sub ⟨Z, Z, Z, Z, trivial⟩, Le.refl _ _, hC5, hr3, ho6, hm3, ho5, hm4⟩
 ·
  rintro ⟨k1, y1⟩ a w6 sr1 ⟨M2, hF1, hl6, hC6, hw1, ho7, hm5, ho8, hm6⟩ hb6 hR1
  refine cw_at (E := [(2, (.pointer (some ⟨g1, 0, none⟩))), (3, (.pointer (some ⟨g2, 0, none⟩))), (8, v2), (9, (.int .i64 k1))]) hF1 (cw_seq (Zr (Zo Z Z Z (ow_lss Z Z Z fun bb1 hbb1 => Zn (Ze (cw_seq ?_))))))
  replace hb6 := Zc hb6
  rcases hb6 with ⟨hc1, hb6⟩ | ⟨hc1, hb6⟩
  ·
   obtain rfl := hbb1.trans hc1
   refine Zt Z (cw_skip (Ze (cw_seq (cw_block (cw_seq (Zr (Zo Z Z Z (Zm Z Z ?_))))))))
   replace hb6 := bind_some hb6
   obtain ⟨x1, hx1, hb6⟩ := hb6
   refine Zo Z Z Z (ow_index (R := (RSlice RSpan)) Z Z Z (VRep.mono hl6 hv2) Tryd.underlying61 (Tryd.sizeOf59 _) (Tryd.isAgg59 _) hx1 fun v5 hv5 => Zo Z Z Z (Za Z Z (Zo Z Z Z (Za Z Z (Zn (Ze ?_))))))
   replace hb6 := bind_some hb6
   obtain ⟨z1, hz1, hb6⟩ := hb6
   refine cw_sub (E' := [(2, (.pointer (some ⟨g1, 0, none⟩))), (3, (.pointer (some ⟨g2, 0, none⟩))), (4, (.int .i64 k1)), (5, v5), (8, v2), (9, (.int .i64 k1))]) ⟨Z, Z, Z, Z, Z, Z, trivial⟩ (cw_drawQ 5 [PEq (.pointer (some ⟨g2, 0, none⟩)), PEq (.slice A1 mk1.length c1), PEq (.int .i64 k1), PV (RSlice RSpan) M2 x1, PV (RSlice RSpan) M2 z1] (by kernel_rfl) Z (by kernel_rfl) ⟨Zq, Zq, Zq, PV.mono _ _ _, PV.mono _ _ _, trivial⟩ ⟨?_, ?_, ?_, ?_, ?_, trivial⟩ ?_)
   ·
    intro w8 D hS1 hd1
    exact Zs (E' := [(3, (.pointer (some ⟨g2, 0, none⟩)))]) ⟨Z, trivial⟩ (Zp Z (Zf Z Z Tryd.underlying25 Z (Tryd.sizeOf23 _) Zb))
   ·
    intro w9 D hS2 hd2
    have ho14 := ho8.no hS2
    exact Zs (E' := [(13, (.pointer (some ⟨g2, 0, none⟩)))]) ⟨(dpE hd2 0 Z Z), trivial⟩ (Zp Z (ow_loadOwn1 Z Z Z ho14 (Tryd.isAgg23 _) Z Zb))
   ·
    intro w10 D hS3 hd3
    exact Zs (E' := [(4, (.int .i64 k1))]) ⟨Z, trivial⟩ (Zp Z (Zm Z Z Zb))
   ·
    intro w11 D hS4 hd4
    have hl11 := Le.no M2 hS4
    exact Zs (E' := [(5, v5)]) ⟨Z, trivial⟩ (Zp Z (Zm Z Z ⟨BX.refl _ _, (VRep.mono hl11 hv5)⟩))
   ·
    intro w12 D hS5 hd5
    have hC12 := hC6.no hS5
    have d2 : PV (RSlice RSpan) M2 x1 (D 3) w12 := dpA hd5 3 Z
    generalize hq1 : (D 3) = v7 at d2
    exact Zs (E' := [(16, v7)]) ⟨(congrArg some hq1), trivial⟩ (Zp Z (ow_appendCopy (R := RSpan) Z Z Z Z Tryd.underlying59 hi69 hz69 hs69 hy69 Z Z Z Z d2 hz1 hC12 fun v8 w13 hw3 hb8 hl13 hC13 => ⟨hb8, hw3⟩))
   ·
    intro w14 D hS6 hd6
    have d7 : PV (RSlice RSpan) M2 z1 (D 4) w14 := dpA hd6 4 Z
    have hl14 := Le.no M2 hS6
    have hC14 := hC6.no hS6
    have ho23 := ho7.no hS6
    have ho24 := ho8.no hS6
    have hr11 := hw1.no hS6
    generalize hq2 : (D 4) = v9 at d7
    refine lw_sub (E' := [(14, (.slice A1 mk1.length c1)), (15, (.int .i64 k1)), (17, v9), (2, (.pointer (some ⟨g1, 0, none⟩))), (3, (.pointer (some ⟨g2, 0, none⟩))), (4, (.int .i64 k1)), (5, v5), (8, v2), (9, (.int .i64 k1))]) ⟨(dpE hd6 1 Z Z), (dpE hd6 2 Z Z), (congrArg some hq2), Z, Z, Z, Z, Z, Z, trivial⟩ ?_
    replace hb6 := bind_some hb6
    obtain ⟨x2, hx2, hb6⟩ := hb6
    refine Zo Z Z Z (ow_indexRow (R := (RSlice RSpan)) Z Z Z hr11 Tryd.underlying23 (Tryd.sizeOf59 _) hx2 (lw_op0 Z Z (ow_storeElRow (X := No) (R := (RSlice RSpan)) (S := (RSlice RSpan)) Z Z Z Z hr11 (orow_blk hr11 hx2) hx2 (FldSet.whole (RSlice RSpan)) (Tryd.sizeOf59 _) d7 (Nat.le_refl _) hC14 fun w15 ho25 hb9 hl15 hC15 => ?_)))
    have ho26 := ho23.go hb9 (fun e => (orow_ne hr11 ho23 (by decide)) (by rw [orow_blk hr11 hx2]; exact congrArg some e.symm))
    have ho27 := ho24.go hb9 (fun e => (orow_ne hr11 ho24 (by decide)) (by rw [orow_blk hr11 hx2]; exact congrArg some e.symm))
    refine Zn (ew_blockN (Ze (Zr (Zo Z Z Z (ow_add Z Z Z (Zo Z Z Z (Zm Z Z (Zn ?_))))))))
    have lz3 := ((hl6.trans hl14).trans hl15)
    exact ew_nxt ((W (k1 + 1)), (List.set y1 (k1 : Int).toNat z1)) hb6 fun a ha => ⟨M2, (ha.sub ⟨Z, Z, Z, Z, trivial⟩), lz3, hC15, ho25, ho26, hm5, ho27, hm6⟩
  ·
   obtain rfl := hbb1.trans hc1
   exact Zu Z (cw_exit (ew_thenX (ew_thenX (ew_blockX (ew_brk (k1, y1) hb6 fun a ha => ⟨M2, (ha.sub ⟨Z, Z, Z, Z, trivial⟩), hl6, hC6, hw1, ho7, hm5, ho8, hm6⟩)))))
 ·
  rintro ⟨k2, y2⟩ a w16 hlr2 ⟨M3, hF2, hl16, hC16, hw4, ho28, hm7, ho29, hm8⟩
  subst hlr2
  refine ew_at (E := [(2, (.pointer (some ⟨g1, 0, none⟩))), (3, (.pointer (some ⟨g2, 0, none⟩))), (8, v2), (9, (.int .i64 k2))]) hF2 (Ze (cw_seq (Zr (Zo Z Z Z (ow_loadOwnA Z Z Z ho29 (Tryd.isAgg25 _) (Tryd.sizeOf25 _) Z ?_)))))
  have hw5 := hw4.freezeDel
  have hC17 := hw4.cxDel hC16 (fun _ e => e.elim) hO
  have hm9 : (Del (.slice A1 mk1.length c1) M3) g1 := ⟨hm7, fun e => (orow_ne hw4 ho28 (by decide)) e⟩
  refine lw_op0 Z Z (ow_store (X := No) (us := [(.slice A1 mk1.length c1)]) (cs' := #[(.slice A1 mk1.length c1)]) Z Z Z Z ho28 (Tryd.sizeOf25 _) Z Z Z Z hm9 (.inl hg2) Z hC17 fun w17 ho30 hb10 hl18 hC18 => Zn (Ze (Zy ?_)))
  have hw7 : VRep RBox w17 (Del (.slice A1 mk1.length c1) M3) ({ Sides := y2 } : Box) (.agg #[(.slice A1 mk1.length c1)]) := shut_Box (VRep.mono hl18 hw5)
  obtain rfl := sj h
  exact ew_ret (res1 Z (.cell Z (own_loadVarA ho30 (Tryd.isAgg25 _) (Tryd.sizeOf25 _) Z))) ⟨_, Z, (hw7.mono hC18.back), hC18.bx⟩

theorem w_impl_boxesOf {w : World} {M : Nat → Prop} (hG : ARep (RArr 4 RShape) w M shapes ⟨0, 0, none⟩) (hO : ∀ b, M b → b < w.heap.size) {v0p : Value} {a_list : List (List (List Span))} (h0 : VRep (RSlice (RArr 4 (RSlice RSpan))) w M a_list v0p) {r : (List Box)} (h : F.impl_boxesOf a_list = some r) :
  Calls Tryd.prog 34 [v0p].toArray w fun e w' => ∃ v, e = .returned v ∧ VRep (RSlice RBox) w' M r v ∧ BX No w w' := by
 obtain ⟨i25, hi25, hz25, hs25, hy25⟩ := info25
 have hC : Cx No w M w M := Cx.start hO (fun _ e => e.elim)
 refine walk (N := 22) Tryd.func34 Z Tryd.ntmps34 Z (cw_seq (Zr (Zo Z Z Z (Za Z Z (Zn (Ze (cw_seq (Zr (Zo Z Z Z (Zm Z Z (Zo Z Z Z (ow_len Z Z h0 Tryd.underlying57 Z ?_))))))))))))
 replace h := bind_some h
 obtain ⟨u1, hu1, h⟩ := h
 refine Zo Z Z Z (ow_make0 (α := Box) (R := RBox) Z Z Z Tryd.underlying28 hi25 hz25 hs25 hy25 Z Z (capF_some hu1) hC fun v1 w1 M1 hr1 hb1 hl1 hC1 hM1 hat1 => Zo Z Z Z (Za Z Z (Zn (Ze (cw_seq (cw_seq (Zr (Zo Z Z Z (Zm Z Z (Zo Z Z Z (ow_len Z Z (VRep.mono hl1 h0) Tryd.underlying57 Z (Zo Z Z Z (Zm Z Z (Zn (Ze ?_)))))))))))))))
 replace h := bind_some h
 obtain ⟨lr1, hlr1, h⟩ := h
 refine cw_for hlr1 (fun s a w' => ∃ (M' : Nat → Prop) (v0c : Value), Fits 22 [(3, v0c), (9, v0p), (10, (.int .i64 (a_list.length : Int))), (11, (.int .i64 s.2))] a ∧ Le w1 M1 w' M' ∧ Cx No w M w' M' ∧ OwnRow RBox w.heap.size 25 w' M' s.1 v0c) ?_ ?_ ?_
 ·
  intro a ha
  exact ⟨M1, v1, ha.sub ⟨Z, Z, Z, Z, trivial⟩, Le.refl _ _, hC1, hr1⟩
 ·
  rintro ⟨y1, k1⟩ a w2 sr1 ⟨M2, v2, hF1, hl2, hC2, hw1⟩ hb2 hR1
  refine cw_at (E := [(3, v2), (9, v0p), (10, (.int .i64 (a_list.length : Int))), (11, (.int .i64 k1))]) hF1 (cw_seq (Zr (Zo Z Z Z (ow_lss Z Z Z fun bb1 hbb1 => Zn (Ze (cw_seq ?_))))))
  replace hb2 := Zc hb2
  rcases hb2 with ⟨hc1, hb2⟩ | ⟨hc1, hb2⟩
  ·
   obtain rfl := hbb1.trans hc1
   refine Zt Z (cw_skip (Ze (cw_seq (cw_block (cw_seq (Zr ?_))))))
   replace hb2 := bind_some hb2
   obtain ⟨x1, hx1, hb2⟩ := hb2
   refine Zo Z Z Z (Zx (R := (RArr 4 (RSlice RSpan))) Z Z Z (VRep.mono (hl1.trans hl2) h0) Tryd.underlying57 (Tryd.sizeOf61 _) hx1 fun p1 hp1 => Zo Z Z Z (Zl (R := (RArr 4 (RSlice RSpan))) Z Z hp1 (Tryd.sizeOf61 _) (Tryd.isAgg61 _) fun v4 hv4 => lw_allocStore (R := (RArr 4 (RSlice RSpan))) Z Z Z Z Z Z Z Tryd.zeroValue61 Tryd.sizeOf61 Z Z Z (by simp) hv4 hC2 fun p2 w3 hp2 hb3 hl3 hC3 => ?_))
   have hr2 := hw1.no hb3
   refine Zn (Ze (Zr (Zo Z Z Z (Zm Z Z (Zo Z Z Z (Zl (R := (RArr 4 (RSlice RSpan))) Z Z hp2 (Tryd.sizeOf61 _) (Tryd.isAgg61 _) fun v5 hv5 => ?_))))))
   replace hb2 := bind_some hb2
   obtain ⟨x2, hx2, hb2⟩ := hb2
   have lz1 := ((hl1.trans hl2).trans hl3)
   refine Zo Z Z Z (Zk Z Z Tryd.call46 (w_impl_sides_box (hG.mono lz1) hC3.old hv5 hx2) fun v6 w4 hv6 => ?_)
   obtain ⟨hv6, hb4⟩ := hv6
   have hl4 := Le.no M2 hb4
   have hC4 := hC3.no hb4
   have hr3 := hr2.no hb4
   obtain ⟨A1, c1, rfl, hw2⟩ := open_Box hv6
   refine Zo Z Z Z (ow_buildSlice (R := RBox) (xs := [x2]) (cs := #[(.slice A1 x2.Sides.length c1)]) (e := 25) Z Z (by kernel_rfl) Z Z ⟨_, _, Z, hv6.cells, Z⟩ hC4 fun p3 w5 hw3 hb5 hl5 hC5 => ?_)
   have hr4 := hr3.no hb5
   replace hb2 := bind_some hb2
   obtain ⟨z1, hz1, hb2⟩ := hb2
   refine Zo Z Z Z (ow_append (R := RBox) Z Z Z Z Tryd.underlying28 hi25 hz25 hs25 hy25 Z Z Z Z hr4 hw3 hz1 hC5 fun v7 w6 M3 hr5 hb6 hl6 hC6 hM2 hat2 => Zo Z Z Z (Za Z Z (Zn (ew_blockN (Ze (Zr (Zo Z Z Z (ow_add Z Z Z (Zo Z Z Z (Zm Z Z (Zn ?_)))))))))))
   have lz2 := ((((hl2.trans hl3).trans hl4).trans hl5).trans hl6)
   exact ew_nxt (z1, (W (k1 + 1))) hb2 fun a ha => ⟨M3, v7, (ha.sub ⟨Z, Z, Z, Z, trivial⟩), lz2, hC6, hr5⟩
  ·
   obtain rfl := hbb1.trans hc1
   exact Zu Z (cw_exit (ew_thenX (ew_thenX (ew_blockX (ew_brk (y1, k1) hb2 fun a ha => ⟨M2, v2, (ha.sub ⟨Z, Z, Z, Z, trivial⟩), hl2, hC2, hw1⟩)))))
 ·
  rintro ⟨y2, k2⟩ a w7 hlr2 ⟨M4, v8, hF2, hl7, hC7, hw4⟩
  subst hlr2
  refine ew_at (E := [(3, v8), (9, v0p), (10, (.int .i64 (a_list.length : Int))), (11, (.int .i64 k2))]) hF2 (Ze (cw_seq (Zr (Zo Z Z Z (Zm Z Z (Zo Z Z Z (Za Z Z (Zn (Ze (Zy ?_))))))))))
  obtain rfl := sj h
  exact ew_ret (res1 Z (.tmp Z)) ⟨_, Z, (hw4.freezeBack hC7 hO), hC7.bx⟩

theorem w_impl_RegionValid {w : World} {M : Nat → Prop} (hG : ARep (RArr 4 RShape) w M shapes ⟨0, 0, none⟩) (hO : ∀ b, M b → b < w.heap.size) {v0p : Value} {a_list : List Box} (h0 : VRep (RSlice RBox) w M a_list v0p) {r : Bool} (h : F.impl_RegionValid a_list = some r) :
  Calls Tryd.prog 49 [v0p].toArray w fun e w' => ∃ v, e = .returned v ∧ VRep RBool w' M r v ∧ BX No w w' := by
 have hC : Cx No w M w M := Cx.start hO (fun _ e => e.elim)
 refine walk (N := 18) Tryd.func49 Z Tryd.ntmps49 Z (cw_seq (Zr (Zo Z Z Z (Za Z Z (Zn (Ze (cw_seq (cw_seq (Zr (Zo Z Z Z (Zm Z Z (Zo Z Z Z (ow_len Z Z h0 Tryd.underlying28 Z (Zo Z Z Z (ow_gtr Z Z Z fun bb1 hbb1 => Zn (Ze ?_))))))))))))))))
 replace h := Zc h
 rcases h with ⟨hc1, h⟩ | ⟨hc1, h⟩
 ·
  obtain rfl := hbb1.trans hc1
  refine Zt Z (cw_seq (Zr (Zo Z Z Z (Za Z Z (Zn (Ze (Zy (Zh ?_))))))))
  obtain rfl := sj h
  exact ew_ret (res1 Z (.tmp Z)) ⟨_, Z, ((vbool _)), hC.bx⟩
 ·
  obtain rfl := hbb1.trans hc1
  refine Zu Z (cw_skip (Ze (cw_seq (cw_seq (Zr (Zo Z Z Z (Zm Z Z (Zo Z Z Z (ow_len Z Z h0 Tryd.underlying28 Z (Zo Z Z Z (Zm Z Z (Zn (Ze ?_)))))))))))))
  replace h := bind_some h
  obtain ⟨lr1, hlr1, h⟩ := h
  refine cw_for hlr1 (fun s a w' => ∃ (M' : Nat → Prop), Fits 18 [(8, v0p), (9, (.int .i64 (a_list.length : Int))), (10, (.int .i64 s))] a ∧ Le w M w' M' ∧ Cx No w M w' M') ?_ ?_ ?_
  ·
   intro a ha
   exact ⟨M, ha.sub ⟨Z, Z, Z, trivial⟩, Le.refl _ _, hC⟩
  ·
   rintro k1 a w1 sr1 ⟨M1, hF1, hl1, hC1⟩ hb1 hR1
   refine cw_at (E := [(8, v0p), (9, (.int .i64 (a_list.length : Int))), (10, (.int .i64 k1))]) hF1 (cw_seq (Zr (Zo Z Z Z (ow_lss Z Z Z fun bb2 hbb2 => Zn (Ze (cw_seq ?_))))))
   replace hb1 := Zc hb1
   rcases hb1 with ⟨hc2, hb1⟩ | ⟨hc2, hb1⟩
   ·
    obtain rfl := hbb2.trans hc2
    refine Zt Z (cw_skip (Ze (cw_seq (cw_block (cw_seq (Zr ?_))))))
    replace hb1 := bind_some hb1
    obtain ⟨x1, hx1, hb1⟩ := hb1
    refine Zo Z Z Z (Zx (R := RBox) Z Z Z (VRep.mono hl1 h0) Tryd.underlying28 (Tryd.sizeOf25 _) hx1 fun p1 hp1 => Zo Z Z Z (Zl (R := RBox) Z Z hp1 (Tryd.sizeOf25 _) (Tryd.isAgg25 _) fun v2 hv2 => lw_allocStore (R := RBox) Z Z Z Z Z Z Z Tryd.zeroValue25 Tryd.sizeOf25 Z Z Z (by simp) hv2 hC1 fun p2 w2 hp2 hb2 hl2 hC2 => Zn (Ze (cw_seq (Zr (Zo Z Z Z (Zl (R := RBox) Z Z hp2 (Tryd.sizeOf25 _) (Tryd.isAgg25 _) fun v3 hv3 => ?_)))))))
    replace hb1 := bind_some hb1
    obtain ⟨x2, hx2, hb1⟩ := hb1
    refine Zo Z Z Z (Zk Z Z Tryd.call31 (w_impl_BoxValid (hG.mono (hl1.trans hl2)) hC2.old hv3 hx2) fun v4 w3 hv4 => ?_)
    obtain ⟨hv4, hb3⟩ := hv4
    have hl3 := Le.no M1 hb3
    have hC3 := hC2.no hb3
    obtain rfl := vbool_eq hv4
    refine Zo Z Z Z (ow_not Z Z (Zn (Ze ?_)))
    replace hb1 := Zc hb1
    rcases hb1 with ⟨hc3, hb1⟩ | ⟨hc3, hb1⟩
    ·
     subst hc3
     refine Zu Z (cw_skip (ew_blockN (Ze (Zr (Zo Z Z Z (ow_add Z Z Z (Zo Z Z Z (Zm Z Z (Zn ?_)))))))))
     have lz1 := ((hl1.trans hl2).trans hl3)
     exact ew_nxt (W (k1 + 1)) hb1 fun a ha => ⟨M1, (ha.sub ⟨Z, Z, Z, trivial⟩), lz1, hC3⟩
    ·
     subst hc3
     refine Zt Z (cw_seq (Zr (Zo Z Z Z (Za Z Z (Zn (Ze (Zy (ew_blockR (Zh (Zh (ew_blockR (ew_brkR (Zh ?_)))))))))))))
     have e1 := hR1 _ (sj hb1).symm
     subst e1
     obtain rfl := sj h
     exact ew_ret (res1 Z (.tmp Z)) ⟨_, Z, ((vbool _)), hC3.bx⟩
   ·
    obtain rfl := hbb2.trans hc2
    exact Zu Z (cw_exit (ew_thenX (ew_thenX (ew_blockX (ew_brk k1 hb1 fun a ha => ⟨M1, (ha.sub ⟨Z, Z, Z, trivial⟩), hl1, hC1⟩)))))
  ·
   rintro k2 a w4 hlr2 ⟨M2, hF2, hl4, hC4⟩
   subst hlr2
   refine ew_at (E := [(8, v0p), (9, (.int .i64 (a_list.length : Int))), (10, (.int .i64 k2))]) hF2 (Ze (cw_seq (Zr (Zo Z Z Z (Za Z Z (Zn (Ze (Zy ?_))))))))
   obtain rfl := sj h
   exact ew_ret (res1 Z (.tmp Z)) ⟨_, Z, ((vbool _)), hC4.bx⟩

theorem w_impl_sides_empty {w : World} {M : Nat → Prop} (_hG : ARep (RArr 4 RShape) w M shapes ⟨0, 0, none⟩) (hO : ∀ b, M b → b < w.heap.size) {v0p : Value} {a_s : List (List Span)} (h0 : VRep (RArr 4 (RSlice RSpan)) w M a_s v0p) {r : Bool} (h : F.impl_sides_empty a_s = some r) :
  Calls Tryd.prog 43 [v0p].toArray w fun e w' => ∃ v, e = .returned v ∧ VRep RBool w' M r v ∧ BX No w w' := by
 have hC : Cx No w M w M := Cx.start hO (fun _ e => e.elim)
 clear _hG
 refine walk (N := 13) Tryd.func43 Z Tryd.ntmps43 Z (cw_seq (Zr (Zo Z Z Z (ow_box (R := (RArr 4 (RSlice RSpan))) Z Z h0 hC fun p1 w1 hp1 hb1 hl1 hC1 => Zo Z Z Z (Za Z Z (Zn (Ze (cw_seq (cw_seq (Zr (Zo Z Z Z (Zl (R := (RArr 4 (RSlice RSpan))) Z Z hp1 (Tryd.sizeOf61 _) (Tryd.isAgg61 _) fun v1 hv1 => Zo Z Z Z (Zm Z Z (Zn (Ze ?_)))))))))))))))
 replace h := bind_some h
 obtain ⟨lr1, hlr1, h⟩ := h
 refine cw_for hlr1 (fun s a w' => ∃ (M' : Nat → Prop), Fits 13 [(5, v1), (6, (.int .i64 s))] a ∧ Le w1 M w' M' ∧ Cx No w M w' M') ?_ ?_ ?_
 ·
  intro a ha
  exact ⟨M, ha.sub ⟨Z, Z, trivial⟩, Le.refl _ _, hC1⟩
 ·
  rintro k1 a w2 sr1 ⟨M1, hF1, hl2, hC2⟩ hb2 hR1
  refine cw_at (E := [(5, v1), (6, (.int .i64 k1))]) hF1 (cw_seq (Zr (Zo Z Z Z (ow_lss Z Z Z fun bb1 hbb1 => Zn (Ze (cw_seq ?_))))))
  replace hb2 := Zc hb2
  rcases hb2 with ⟨hc1, hb2⟩ | ⟨hc1, hb2⟩
  ·
   obtain rfl := hbb1.trans hc1
   refine Zt Z (cw_skip (Ze (cw_seq (cw_block (cw_seq (Zr ?_))))))
   replace hb2 := bind_some hb2
   obtain ⟨x1, hx1, hb2⟩ := hb2
   refine Zo Z Z Z (ow_index (R := (RSlice RSpan)) Z Z Z (VRep.mono hl2 hv1) Tryd.underlying61 (Tryd.sizeOf59 _) (Tryd.isAgg59 _) hx1 fun v3 hv3 => Zo Z Z Z (Za Z Z (Zn (Ze (cw_seq (Zr (Zo Z Z Z (Zm Z Z (Zo Z Z Z (ow_len Z Z hv3 Tryd.underlying59 Z (Zo Z Z Z (ow_eqlI Z Z Z fun bb2 hbb2 => Zn (Ze ?_)))))))))))))
   replace hb2 := Zc hb2
   rcases hb2 with ⟨hc2, hb2⟩ | ⟨hc2, hb2⟩
   ·
    obtain rfl := hbb2.trans hc2
    refine Zt Z (cw_seq (Zr (Zo Z Z Z (Za Z Z (Zn (Ze (Zy (ew_blockR (Zh (Zh (ew_blockR (ew_brkR (Zh ?_)))))))))))))
    have e1 := hR1 _ (sj hb2).symm
    subst e1
    obtain rfl := sj h
    exact ew_ret (res1 Z (.tmp Z)) ⟨_, Z, ((vbool _)), hC2.bx⟩
   ·
    obtain rfl := hbb2.trans hc2
    exact Zu Z (cw_skip (ew_blockN (Ze (Zr (Zo Z Z Z (ow_add Z Z Z (Zo Z Z Z (Zm Z Z (Zn (ew_nxt (W (k1 + 1)) hb2 fun a ha => ⟨M1, (ha.sub ⟨Z, Z, trivial⟩), hl2, hC2⟩))))))))))
  ·
   obtain rfl := hbb1.trans hc1
   exact Zu Z (cw_exit (ew_thenX (ew_thenX (ew_blockX (ew_brk k1 hb2 fun a ha => ⟨M1, (ha.sub ⟨Z, Z, trivial⟩), hl2, hC2⟩)))))
 ·
  rintro k2 a w3 hlr2 ⟨M2, hF2, hl3, hC3⟩
  subst hlr2
  refine ew_at (E := [(5, v1), (6, (.int .i64 k2))]) hF2 (Ze (cw_seq (Zr (Zo Z Z Z (Za Z Z (Zn (Ze (Zy ?_))))))))
  obtain rfl := sj h
  exact ew_ret (res1 Z (.tmp Z)) ⟨_, Z, ((vbool _)), hC3.bx⟩

theorem w_impl_inBoth {w : World} {M : Nat → Prop} (_hG : ARep (RArr 4 RShape) w M shapes ⟨0, 0, none⟩) (hO : ∀ b, M b → b < w.heap.size) {b0 a_inA : Bool} (h0 : b0 = a_inA) {b1 a_inB : Bool} (h1 : b1 = a_inB) {r : Bool} (h : F.impl_inBoth a_inA a_inB = some r) :
  Calls Tryd.prog 100 [(.bool b0), (.bool b1)].toArray w fun e w' => ∃ v, e = .returned v ∧ VRep RBool w' M r v ∧ BX No w w' := by
 have hC : Cx No w M w M := Cx.start hO (fun _ e => e.elim)
 clear _hG
 refine walk (N := 9) Tryd.func100 Z Tryd.ntmps100 Z (cw_seq (Zr (Zo Z Z Z (Za Z Z (Zn (Ze (cw_seq (Zr (Zo Z Z Z (Zm Z Z (Zo Z Z Z (Zm Z Z ?_))))))))))))
 replace h := Zc h
 rcases h with ⟨hc1, h⟩ | ⟨hc1, h⟩
 ·
  obtain rfl := h0.trans hc1
  refine lw_on Z Z Z Z Z Z (Zm Z Z (Zo Z Z Z (ow_pickT Z Z Z (Zo Z Z Z (Za Z Z (Zn (Ze (Zy ?_))))))))
  obtain rfl := sj h
  exact ew_ret (res1 Z (.tmp Z)) ⟨_, Z, ((vbool_of h1)), hC.bx⟩
 ·
  obtain rfl := h0.trans hc1
  refine lw_off Z Z Z Z Z Z (Zo Z Z Z (ow_pickF Z Z Z (Zo Z Z Z (Za Z Z (Zn (Ze (Zy ?_)))))))
  obtain rfl := sj h
  exact ew_ret (res1 Z (.tmp Z)) ⟨_, Z, ((vbool _)), hC.bx⟩

theorem w_impl_stretch {w : World} {M : Nat → Prop} (_hG : ARep (RArr 4 RShape) w M shapes ⟨0, 0, none⟩) (hO : ∀ b, M b → b < w.heap.size) {v0p : Value} {a_rest : List Span} (h0 : VRep (RSlice RSpan) w M a_rest v0p) {a_at : Int} {a_top : Int} {r : Bool × Int} (h : F.impl_stretch a_rest a_at a_top = some r) :
  Calls Tryd.prog 98 [v0p, (.int .i64 a_at), (.int .i64 a_top)].toArray w fun e w' => ∃ v, e = .returned v ∧ (∃ u0 u1, v = .tuple #[u0, u1] ∧ VRep RBool w' M r.1 u0 ∧ VRep RInt w' M r.2 u1) ∧ BX No w w' := by
 have hC : Cx No w M w M := Cx.start hO (fun _ e => e.elim)
 clear _hG
 refine walk (N := 27) Tryd.func98 Z Tryd.ntmps98 Z (cw_seq (Zr (Zo Z Z Z (Za Z Z (Zo Z Z Z (Za Z Z (Zn (Ze (cw_seq (cw_seq (Zr (Zo Z Z Z (Zm Z Z (Zo Z Z Z (ow_len Z Z h0 Tryd.underlying59 Z (Zo Z Z Z (ow_eqlI Z Z Z fun bb1 hbb1 => Zn (Ze ?_))))))))))))))))))
 replace h := Zc h
 rcases h with ⟨hc1, h⟩ | ⟨hc1, h⟩
 ·
  obtain rfl := hbb1.trans hc1
  refine Zt Z (cw_seq (Zr (Zo Z Z Z (Zm Z Z (Zo Z Z Z (Za Z Z (Zo Z Z Z (Za Z Z (Zn (Ze (Zy (Zh ?_))))))))))))
  obtain rfl := sj h
  exact ew_ret (res2 Z (.tmp Z) (.tmp Z)) ⟨_, Z, ⟨_, _, Z, ((vbool _)), ((vint _))⟩, hC.bx⟩
 ·
  obtain rfl := hbb1.trans hc1
  refine Zu Z (cw_skip (Ze (cw_seq (cw_seq (Zr (Zo Z Z Z (Zm Z Z (Zo Z Z Z (Zm Z Z ?_)))))))))
  replace h := bind_some h
  obtain ⟨x1, hx1, h⟩ := h
  refine Zo Z Z Z (Zx (R := RSpan) Z Z Z h0 Tryd.underlying59 (Tryd.sizeOf69 _) hx1 fun p1 hp1 => Zo Z Z Z (Zf Z Z Tryd.underlying69 Z (Tryd.sizeOf3 _) (Zo Z Z Z (Zl (R := RInt) Z Z (hp1.fld fld_Span_Lo) (Tryd.sizeOf3 _) (Tryd.isAgg3 _) fun v1 hv1 => ?_))))
  obtain rfl := Zi hv1
  refine Zo Z Z Z (ow_lss Z Z Z fun bb2 hbb2 => Zn (Ze ?_))
  replace h := Zc h
  rcases h with ⟨hc2, h⟩ | ⟨hc2, h⟩
  ·
   obtain rfl := hbb2.trans hc2
   refine Zt Z (cw_seq (cw_sub (E' := [(0, v0p), (7, (.int .i64 0))]) ⟨Z, Z, trivial⟩ (cw_drawQ 6 [PV (RSlice RSpan) M a_rest, PA RSpan M x1, PA RInt M x1.Lo, PEq (.int .i64 x1.Lo), PEq (.int .i64 (W (x1.Lo - 1))), PEq (.bool false)] (by kernel_rfl) Z (by kernel_rfl) ⟨PV.mono _ _ _, PA.mono _ _ _, PA.mono _ _ _, Zq, Zq, Zq, trivial⟩ ⟨?_, ?_, ?_, ?_, ?_, ?_, trivial⟩ ?_)))
   ·
    intro w1 D hS1 hd1
    have hl1 := Le.no M hS1
    exact Zs (E' := [(0, v0p)]) ⟨Z, trivial⟩ (Zp Z (Zm Z Z ⟨BX.refl _ _, (VRep.mono hl1 h0)⟩))
   ·
    intro w2 D hS2 hd2
    have d1 : PV (RSlice RSpan) M a_rest (D 0) w2 := dpA hd2 0 Z
    generalize hq1 : (D 0) = v3 at d1
    exact Zs (E' := [(18, v3)]) ⟨(congrArg some hq1), trivial⟩ (Zp Z (Zx (R := RSpan) Z Z Z d1 Tryd.underlying59 (Tryd.sizeOf69 _) hx1 fun p3 hp3 => ⟨BX.refl _ _, ⟨_, Z, hp3⟩⟩))
   ·
    intro w3 D hS3 hd3
    have d2 : PA RSpan M x1 (D 1) w3 := dpA hd3 1 Z
    obtain ⟨p4, e1, ha1⟩ := d2
    exact Zs (E' := [(19, (.pointer (some p4)))]) ⟨(congrArg some e1), trivial⟩ (Zp Z (Zf Z Z Tryd.underlying69 Z (Tryd.sizeOf3 _) ⟨BX.refl _ _, ⟨_, Z, (ha1.fld fld_Span_Lo)⟩⟩))
   ·
    intro w4 D hS4 hd4
    have d3 : PA RInt M x1.Lo (D 2) w4 := dpA hd4 2 Z
    obtain ⟨p5, e2, ha2⟩ := d3
    refine Zs (E' := [(20, (.pointer (some p5)))]) ⟨(congrArg some e2), trivial⟩ (Zp Z (Zl (R := RInt) Z Z ha2 (Tryd.sizeOf3 _) (Tryd.isAgg3 _) fun v4 hv4 => ?_))
    obtain rfl := Zi hv4
    exact Zb
   ·
    intro w5 D hS5 hd5
    exact Zs (E' := [(21, (.int .i64 x1.Lo))]) ⟨(dpE hd5 3 Z Z), trivial⟩ (Zp Z (ow_sub Z Z Z Zb))
   ·
    intro w6 D hS6 hd6
    exact Zs (E' := []) trivial (Zp Z (Za Z Z Zb))
   ·
    intro w7 D hS7 hd7
    have hC7 := hC.no hS7
    refine lw_sub (E' := [(22, (.int .i64 (W (x1.Lo - 1)))), (6, (.bool false)), (0, v0p), (7, (.int .i64 0))]) ⟨(dpE hd7 4 Z Z), (dpE hd7 5 Z Z), Z, Z, trivial⟩ (Zo Z Z Z (Za Z Z (Zn (Ze (Zy (Zh ?_))))))
    obtain rfl := sj h
    exact ew_ret (res2 Z (.tmp Z) (.tmp Z)) ⟨_, Z, ⟨_, _, Z, ((vbool _)), ((vint _))⟩, hC7.bx⟩
  ·
   obtain rfl := hbb2.trans hc2
   refine Zu Z (cw_skip (Ze (cw_seq (cw_sub (E' := [(0, v0p), (7, (.int .i64 0))]) ⟨Z, Z, trivial⟩ (cw_drawQ 5 [PV (RSlice RSpan) M a_rest, PA RSpan M x1, PA RInt M x1.Hi, PEq (.int .i64 x1.Hi), PEq (.bool true)] (by kernel_rfl) Z (by kernel_rfl) ⟨PV.mono _ _ _, PA.mono _ _ _, PA.mono _ _ _, Zq, Zq, trivial⟩ ⟨?_, ?_, ?_, ?_, ?_, trivial⟩ ?_)))))
   ·
    intro w8 D hS8 hd8
    have hl8 := Le.no M hS8
    exact Zs (E' := [(0, v0p)]) ⟨Z, trivial⟩ (Zp Z (Zm Z Z ⟨BX.refl _ _, (VRep.mono hl8 h0)⟩))
   ·
    intro w9 D hS9 hd9
    have d11 : PV (RSlice RSpan) M a_rest (D 0) w9 := dpA hd9 0 Z
    generalize hq2 : (D 0) = v6 at d11
    exact Zs (E' := [(23, v6)]) ⟨(congrArg some hq2), trivial⟩ (Zp Z (Zx (R := RSpan) Z Z Z d11 Tryd.underlying59 (Tryd.sizeOf69 _) hx1 fun p7 hp7 => ⟨BX.refl _ _, ⟨_, Z, hp7⟩⟩))
   ·
    intro w10 D hS10 hd10
    have d12 : PA RSpan M x1 (D 1) w10 := dpA hd10 1 Z
    obtain ⟨p8, e3, ha3⟩ := d12
    exact Zs (E' := [(24, (.pointer (some p8)))]) ⟨(congrArg some e3), trivial⟩ (Zp Z (Zf Z Z Tryd.underlying69 Z (Tryd.sizeOf3 _) ⟨BX.refl _ _, ⟨_, Z, (ha3.fld fld_Span_Hi)⟩⟩))
   ·
    intro w11 D hS11 hd11
    have d13 : PA RInt M x1.Hi (D 2) w11 := dpA hd11 2 Z
    obtain ⟨p9, e4, ha4⟩ := d13
    refine Zs (E' := [(25, (.pointer (some p9)))]) ⟨(congrArg some e4), trivial⟩ (Zp Z (Zl (R := RInt) Z Z ha4 (Tryd.sizeOf3 _) (Tryd.isAgg3 _) fun v7 hv7 => ?_))
    obtain rfl := Zi hv7
    exact Zb
   ·
    intro w12 D hS12 hd12
    exact Zs (E' := []) trivial (Zp Z (Za Z Z Zb))
   ·
    intro w13 D hS13 hd13
    have hC13 := hC.no hS13
    refine lw_sub (E' := [(26, (.int .i64 x1.Hi)), (6, (.bool true)), (0, v0p), (7, (.int .i64 0))]) ⟨(dpE hd13 3 Z Z), (dpE hd13 4 Z Z), Z, Z, trivial⟩ (Zo Z Z Z (Za Z Z (Zn (Ze (Zy ?_)))))
    obtain rfl := sj h
    exact ew_ret (res2 Z (.tmp Z) (.tmp Z)) ⟨_, Z, ⟨_, _, Z, ((vbool _)), ((vint _))⟩, hC13.bx⟩

theorem w_impl_limitSpans {w : World} {M : Nat → Prop} (_hG : ARep (RArr 4 RShape) w M shapes ⟨0, 0, none⟩) (hO : ∀ b, M b → b < w.heap.size) {v0p : Value} {a_list : List Span} (h0 : VRep (RSlice RSpan) w M a_list v0p) {r : (List Span) × Bool} (h : F.impl_limitSpans a_list = some r) :
  Calls Tryd.prog 99 [v0p].toArray w fun e w' => ∃ v, e = .returned v ∧ (∃ u0 u1, v = .tuple #[u0, u1] ∧ VRep (RSlice RSpan) w' M r.1 u0 ∧ VRep RBool w' M r.2 u1) ∧ BX No w w' := by
 have hC : Cx No w M w M := Cx.start hO (fun _ e => e.elim)
 clear _hG
 refine walk (N := 8) Tryd.func99 Z Tryd.ntmps99 Z (cw_seq (Zr (Zo Z Z Z (Za Z Z (Zo Z Z Z (Za Z Z (Zn (Ze (cw_seq (cw_seq (Zr (Zo Z Z Z (Zm Z Z (Zo Z Z Z (ow_len Z Z h0 Tryd.underlying59 Z (Zo Z Z Z (ow_gtr Z Z Z fun bb1 hbb1 => Zn (Ze ?_))))))))))))))))))
 replace h := Zc h
 rcases h with ⟨hc1, h⟩ | ⟨hc1, h⟩
 ·
  obtain rfl := hbb1.trans hc1
  refine Zt Z (cw_seq (Zr (Zo Z Z Z (Za Z Z (Zo Z Z Z (Za Z Z (Zn (Ze (Zy (Zh ?_))))))))))
  obtain rfl := sj h
  exact ew_ret (res2 Z (.tmp Z) (.tmp Z)) ⟨_, Z, ⟨_, _, Z, (VRep.mono hC.back (vslice_nil (R := RSpan) (w := w) (M := M))), ((vbool _))⟩, hC.bx⟩
 ·
  obtain rfl := hbb1.trans hc1
  refine Zu Z (cw_skip (Ze (cw_seq (Zr (Zo Z Z Z (Zm Z Z (Zo Z Z Z (Za Z Z (Zo Z Z Z (Za Z Z (Zn (Ze (Zy ?_)))))))))))))
  obtain rfl := sj h
  exact ew_ret (res2 Z (.tmp Z) (.tmp Z)) ⟨_, Z, ⟨_, _, Z, (VRep.mono hC.back h0), ((vbool _))⟩, hC.bx⟩

theorem w_impl_sweepSpans__impl_inBoth {w : World} {M : Nat → Prop} (hG : ARep (RArr 4 RShape) w M shapes ⟨0, 0, none⟩) (hO : ∀ b, M b → b < w.heap.size) {v0p : Value} {a_a : List Span} (h0 : VRep (RSlice RSpan) w M a_a v0p) {v1p : Value} {a_b : List Span} (h1 : VRep (RSlice RSpan) w M a_b v1p) {a_top : Int} {r : (List Span)} (h : F.impl_sweepSpans__impl_inBoth a_a a_b a_top = some r) :
  Calls Tryd.prog 78 [v0p, v1p, (.int .i64 a_top), (.func (.func 100) #[] #[])].toArray w fun e w' => ∃ v, e = .returned v ∧ VRep (RSlice RSpan) w' M r v ∧ BX No w w' := by
 obtain ⟨i69, hi69, hz69, hs69, hy69⟩ := info69
 have hC : Cx No w M w M := Cx.start hO (fun _ e => e.elim)
 refine walk (N := 107) Tryd.func78 Z Tryd.ntmps78 Z (cw_seq (Zr (Zo Z Z Z (Za Z Z (Zn (Ze (cw_seq (Zr (Zo Z Z Z (Za Z Z (Zn (Ze (cw_seq (Zr (Zo Z Z Z (Za Z Z (Zo Z Z Z (Za Z Z (Zn (Ze (cw_seq (cw_seq (Zr (Zo Z Z Z (Za Z Z (Zn (Ze ?_)))))))))))))))))))))))))))
 have hr1 : OwnRow RSpan w.heap.size 69 w M ([] : List Span) (.slice none 0 0) := ownrow_nil
 replace h := bind_some h
 obtain ⟨lr1, hlr1, h⟩ := h
 refine cw_for hlr1 (fun s a w' => ∃ (M' : Nat → Prop) (v0c : Value), Fits 107 [(0, v0p), (1, v1p), (2, (.int .i64 a_top)), (3, (.func (.func 100) #[] #[])), (9, v0c), (10, (.int .i64 s.2.1)), (11, (.int .i64 s.2.2.1)), (12, (.int .i64 s.2.2.2))] a ∧ Le w M w' M' ∧ Cx No w M w' M' ∧ OwnRow RSpan w.heap.size 69 w' M' s.1 v0c) ?_ ?_ ?_
 ·
  intro a ha
  exact ⟨M, (.slice none 0 0), ha.sub ⟨Z, Z, Z, Z, Z, Z, Z, Z, trivial⟩, Le.refl _ _, hC, hr1⟩
 ·
  rintro ⟨y1, k1, k2, k3⟩ a w1 sr1 ⟨M1, v1, hF1, hl1, hC1, hw1⟩ hb1 hR1
  refine cw_at (E := [(0, v0p), (1, v1p), (2, (.int .i64 a_top)), (3, (.func (.func 100) #[] #[])), (9, v1), (10, (.int .i64 k1)), (11, (.int .i64 k2)), (12, (.int .i64 k3))]) hF1 (cw_seq (cw_seq (Zr (Zo Z Z Z (Zm Z Z (Zo Z Z Z (Zm Z Z (Zo Z Z Z (ow_leq Z Z Z fun bb1 hbb1 => Zn (Ze ?_))))))))))
  replace hb1 := Zc hb1
  rcases hb1 with ⟨hc1, hb1⟩ | ⟨hc1, hb1⟩
  ·
   obtain rfl := hbb1.trans hc1
   refine Zt Z (cw_skip (Ze (cw_block (cw_seq ?_))))
   replace hb1 := bind_some hb1
   obtain ⟨lr2, hlr2, hb1⟩ := hb1
   refine cw_for hlr2 (fun s a w' => ∃ (M' : Nat → Prop), Fits 107 [(0, v0p), (1, v1p), (2, (.int .i64 a_top)), (3, (.func (.func 100) #[] #[])), (9, v1), (10, (.int .i64 s.1)), (11, (.int .i64 k2)), (12, (.int .i64 k3))] a ∧ Le w1 M1 w' M' ∧ Cx No w M w' M' ∧ OwnRow RSpan w.heap.size 69 w' M' s.2 v1) ?_ ?_ ?_
   ·
    intro a ha
    exact ⟨M1, ha.sub ⟨Z, Z, Z, Z, Z, Z, Z, Z, trivial⟩, Le.refl _ _, hC1, hw1⟩
   ·
    rintro ⟨k4, y2⟩ a w2 sr2 ⟨M2, hF2, hl2, hC2, hw2⟩ hb2 hR2
    refine cw_at (E := [(0, v0p), (1, v1p), (2, (.int .i64 a_top)), (3, (.func (.func 100) #[] #[])), (9, v1), (10, (.int .i64 k4)), (11, (.int .i64 k2)), (12, (.int .i64 k3))]) hF2 (cw_seq (cw_seq (Zr (Zo Z Z Z (Zm Z Z (Zo Z Z Z (Zm Z Z (Zo Z Z Z (ow_len Z Z (VRep.mono (hl1.trans hl2) h0) Tryd.underlying59 Z (Zo Z Z Z (ow_lss Z Z Z fun bb2 hbb2 => Zo Z Z Z (Zm Z Z ?_))))))))))))
    replace hb2 := Zc hb2
    rcases hb2 with ⟨hc2, hb2⟩ | ⟨hc2, hb2⟩
    ·
     obtain rfl := hbb2.trans hc2
     refine lw_on Z Z Z Z Z Z (Zm Z Z (lw_on Z Z Z Z Z Z (Zm Z Z ?_)))
     replace hb2 := bind_some hb2
     obtain ⟨x1, hx1, hb2⟩ := hb2
     refine lw_on Z Z Z Z Z Z (Zx (R := RSpan) Z Z Z (VRep.mono (hl1.trans hl2) h0) Tryd.underlying59 (Tryd.sizeOf69 _) hx1 fun p1 hp1 => lw_on Z Z Z Z Z Z (Zf Z Z Tryd.underlying69 Z (Tryd.sizeOf3 _) (lw_on Z Z Z Z Z Z (Zl (R := RInt) Z Z (hp1.fld fld_Span_Hi) (Tryd.sizeOf3 _) (Tryd.isAgg3 _) fun v7 hv7 => ?_))))
     obtain rfl := Zi hv7
     refine lw_on Z Z Z Z Z Z (Zm Z Z (lw_on Z Z Z Z Z Z (ow_lss Z Z Z fun bb3 hbb3 => Zo Z Z Z (ow_pickT Z Z Z (Zn (Ze ?_))))))
     replace hb2 := Zc hb2
     rcases hb2 with ⟨hc3, hb2⟩ | ⟨hc3, hb2⟩
     ·
      obtain rfl := hbb3.trans hc3
      exact Zt Z (cw_skip (Ze (cw_block (Zr (Zo Z Z Z (Zm Z Z (Zo Z Z Z (ow_add Z Z Z (Zo Z Z Z (Za Z Z (Zn (ew_blockN (ew_nxt ((W (k4 + 1)), y2) hb2 fun a ha => ⟨M2, (ha.sub ⟨Z, Z, Z, Z, Z, Z, Z, Z, trivial⟩), hl2, hC2, hw2⟩)))))))))))))
     ·
      obtain rfl := hbb3.trans hc3
      exact Zu Z (cw_exit (ew_thenX (ew_thenX (ew_blockX (ew_brk (k4, y2) hb2 fun a ha => ⟨M2, (ha.sub ⟨Z, Z, Z, Z, Z, Z, Z, Z, trivial⟩), hl2, hC2, hw2⟩)))))
    ·
     obtain rfl := hbb2.trans hc2
     exact lw_off Z Z Z Z Z Z (lw_off Z Z Z Z Z Z (lw_off Z Z Z Z Z Z (lw_off Z Z Z Z Z Z (lw_off Z Z Z Z Z Z (lw_off Z Z Z Z Z Z (lw_off Z Z Z Z Z Z (Zo Z Z Z (ow_pickF Z Z Z (Zn (Ze (Zu Z (cw_exit (ew_thenX (ew_thenX (ew_blockX (ew_brk (k4, y2) hb2 fun a ha => ⟨M2, (ha.sub ⟨Z, Z, Z, Z, Z, Z, Z, Z, trivial⟩), hl2, hC2, hw2⟩))))))))))))))))
   ·
    rintro ⟨k5, y3⟩ a w3 hlr3 ⟨M3, hF3, hl3, hC3, hw3⟩
    subst hlr3
    refine ew_at (E := [(0, v0p), (1, v1p), (2, (.int .i64 a_top)), (3, (.func (.func 100) #[] #[])), (9, v1), (10, (.int .i64 k5)), (11, (.int .i64 k2)), (12, (.int .i64 k3))]) hF3 (Ze (cw_seq ?_))
    replace hb1 := bind_some hb1
    obtain ⟨lr3, hlr4, hb1⟩ := hb1
    refine cw_for hlr4 (fun s a w' => ∃ (M' : Nat → Prop), Fits 107 [(0, v0p), (1, v1p), (2, (.int .i64 a_top)), (3, (.func (.func 100) #[] #[])), (9, v1), (10, (.int .i64 k5)), (11, (.int .i64 s.1)), (12, (.int .i64 k3))] a ∧ Le w3 M3 w' M' ∧ Cx No w M w' M' ∧ OwnRow RSpan w.heap.size 69 w' M' s.2 v1) ?_ ?_ ?_
    ·
     intro a ha
     exact ⟨M3, ha.sub ⟨Z, Z, Z, Z, Z, Z, Z, Z, trivial⟩, Le.refl _ _, hC3, hw3⟩
    ·
     rintro ⟨k6, y4⟩ a w4 sr3 ⟨M4, hF4, hl4, hC4, hw4⟩ hb3 hR3
     refine cw_at (E := [(0, v0p), (1, v1p), (2, (.int .i64 a_top)), (3, (.func (.func 100) #[] #[])), (9, v1), (10, (.int .i64 k5)), (11, (.int .i64 k6)), (12, (.int .i64 k3))]) hF4 (cw_seq (cw_seq (Zr (Zo Z Z Z (Zm Z Z (Zo Z Z Z (Zm Z Z ?_)))))))
     have lz1 := ((hl1.trans hl3).trans hl4)
     refine Zo Z Z Z (ow_len Z Z (VRep.mono lz1 h1) Tryd.underlying59 Z (Zo Z Z Z (ow_lss Z Z Z fun bb4 hbb4 => Zo Z Z Z (Zm Z Z ?_))))
     replace hb3 := Zc hb3
     rcases hb3 with ⟨hc4, hb3⟩ | ⟨hc4, hb3⟩
     ·
      obtain rfl := hbb4.trans hc4
      refine lw_on Z Z Z Z Z Z (Zm Z Z (lw_on Z Z Z Z Z Z (Zm Z Z ?_)))
      replace hb3 := bind_some hb3
      obtain ⟨x2, hx2, hb3⟩ := hb3
      refine lw_on Z Z Z Z Z Z (Zx (R := RSpan) Z Z Z (VRep.mono lz1 h1) Tryd.underlying59 (Tryd.sizeOf69 _) hx2 fun p2 hp2 => lw_on Z Z Z Z Z Z (Zf Z Z Tryd.underlying69 Z (Tryd.sizeOf3 _) (lw_on Z Z Z Z Z Z (Zl (R := RInt) Z Z (hp2.fld fld_Span_Hi) (Tryd.sizeOf3 _) (Tryd.isAgg3 _) fun v12 hv12 => ?_))))
      obtain rfl := Zi hv12
      refine lw_on Z Z Z Z Z Z (Zm Z Z (lw_on Z Z Z Z Z Z (ow_lss Z Z Z fun bb5 hbb5 => Zo Z Z Z (ow_pickT Z Z Z (Zn (Ze ?_))))))
      replace hb3 := Zc hb3
      rcases hb3 with ⟨hc5, hb3⟩ | ⟨hc5, hb3⟩
      ·
       obtain rfl := hbb5.trans hc5
       exact Zt Z (cw_skip (Ze (cw_block (Zr (Zo Z Z Z (Zm Z Z (Zo Z Z Z (ow_add Z Z Z (Zo Z Z Z (Za Z Z (Zn (ew_blockN (ew_nxt ((W (k6 + 1)), y4) hb3 fun a ha => ⟨M4, (ha.sub ⟨Z, Z, Z, Z, Z, Z, Z, Z, trivial⟩), hl4, hC4, hw4⟩)))))))))))))
      ·
       obtain rfl := hbb5.trans hc5
       exact Zu Z (cw_exit (ew_thenX (ew_thenX (ew_blockX (ew_brk (k6, y4) hb3 fun a ha => ⟨M4, (ha.sub ⟨Z, Z, Z, Z, Z, Z, Z, Z, trivial⟩), hl4, hC4, hw4⟩)))))
     ·
      obtain rfl := hbb4.trans hc4
      exact lw_off Z Z Z Z Z Z (lw_off Z Z Z Z Z Z (lw_off Z Z Z Z Z Z (lw_off Z Z Z Z Z Z (lw_off Z Z Z Z Z Z (lw_off Z Z Z Z Z Z (lw_off Z Z Z Z Z Z (Zo Z Z Z (ow_pickF Z Z Z (Zn (Ze (Zu Z (cw_exit (ew_thenX (ew_thenX (ew_blockX (ew_brk (k6, y4) hb3 fun a ha => ⟨M4, (ha.sub ⟨Z, Z, Z, Z, Z, Z, Z, Z, trivial⟩), hl4, hC4, hw4⟩))))))))))))))))
    ·
     rintro ⟨k7, y5⟩ a w5 hlr5 ⟨M5, hF5, hl5, hC5, hw5⟩
     subst hlr5
     refine ew_at (E := [(0, v0p), (1, v1p), (2, (.int .i64 a_top)), (3, (.func (.func 100) #[] #[])), (9, v1), (10, (.int .i64 k5)), (11, (.int .i64 k7)), (12, (.int .i64 k3))]) hF5 (Ze (cw_seq (Zr (Zo Z Z Z (Zm Z Z (Zo Z Z Z (Zm Z Z ?_)))))))
     replace hb1 := bind_some hb1
     obtain ⟨y6, hy6, hb1⟩ := hb1
     have lz2 := ((hl1.trans hl3).trans hl5)
     refine Zo Z Z Z (ow_sliceFrom (R := RSpan) Z Z Z (VRep.mono lz2 h0) Tryd.underlying59 (Tryd.sizeOf69 _) (dropF_some hy6).2 fun v15 hv15 => ?_)
     rw [← (dropF_some hy6).1] at hv15
     refine Zo Z Z Z (Zm Z Z (Zo Z Z Z (Zm Z Z ?_)))
     replace hb1 := bind_some hb1
     obtain ⟨x3, hx3, hb1⟩ := hb1
     refine Zo Z Z Z (Zk Z Z Tryd.call98 (w_impl_stretch (hG.mono lz2) hC5.old hv15 hx3) fun v16 w6 hv16 => ?_)
     obtain ⟨⟨v17, v18, rfl, hv17, hv18⟩, hb4⟩ := hv16
     have hl6 := Le.no M5 hb4
     have hC6 := hC5.no hb4
     have hr2 := hw5.no hb4
     obtain ⟨bb6, hbb6, rfl⟩ := vbool_ex hv17
     obtain rfl := Zi hv18
     refine Zo Z Z Z (Zm Z Z (Zo Z Z Z (ow_extract Z Z Z (Zo Z Z Z (ow_extract Z Z Z (Zo Z Z Z (Za Z Z (Zo Z Z Z (Za Z Z (Zn (Ze (cw_seq (Zr (Zo Z Z Z (Zm Z Z (Zo Z Z Z (Zm Z Z ?_)))))))))))))))))
     replace hb1 := bind_some hb1
     obtain ⟨y7, hy7, hb1⟩ := hb1
     refine Zo Z Z Z (ow_sliceFrom (R := RSpan) Z Z Z (VRep.mono (lz2.trans hl6) h1) Tryd.underlying59 (Tryd.sizeOf69 _) (dropF_some hy7).2 fun v19 hv19 => ?_)
     rw [← (dropF_some hy7).1] at hv19
     refine Zo Z Z Z (Zm Z Z (Zo Z Z Z (Zm Z Z ?_)))
     replace hb1 := bind_some hb1
     obtain ⟨x4, hx4, hb1⟩ := hb1
     refine Zo Z Z Z (Zk Z Z Tryd.call98 (w_impl_stretch (hG.mono (lz2.trans hl6)) hC6.old hv19 hx4) fun v20 w7 hv20 => ?_)
     obtain ⟨⟨v21, v22, rfl, hv21, hv22⟩, hb5⟩ := hv20
     have hl7 := Le.no M5 hb5
     have hC7 := hC6.no hb5
     have hr3 := hr2.no hb5
     obtain ⟨bb7, hbb7, rfl⟩ := vbool_ex hv21
     obtain rfl := Zi hv22
     refine Zo Z Z Z (Zm Z Z (Zo Z Z Z (ow_extract Z Z Z (Zo Z Z Z (ow_extract Z Z Z (Zo Z Z Z (Za Z Z (Zo Z Z Z (Za Z Z (Zn (Ze (cw_seq (Zr (Zo Z Z Z (Zm Z Z (Zo Z Z Z (Zm Z Z (Zo Z Z Z (ow_min Z Z Z (Zo Z Z Z (Za Z Z (Zn (Ze (cw_seq (cw_seq (Zr (Zo Z Z Z (Zm Z Z (Zo Z Z Z (Zm Z Z (Zo Z Z Z (Zm Z Z ?_))))))))))))))))))))))))))))))))
     replace hb1 := bind_some hb1
     obtain ⟨x5, hx5, hb1⟩ := hb1
     have lz3 := ((lz2.trans hl6).trans hl7)
     refine Zo Z Z Z (ow_callv Z Z Z Tryd.call100 (w_impl_inBoth (hG.mono lz3) hC7.old hbb6 hbb7 hx5) fun v23 w8 hv23 => ?_)
     obtain ⟨hv23, hb6⟩ := hv23
     have hl8 := Le.no M5 hb6
     have hC8 := hC7.no hb6
     have hr4 := hr3.no hb6
     obtain rfl := vbool_eq hv23
     refine Zn (Ze ?_)
     replace hb1 := Zc hb1
     rcases hb1 with ⟨hc6, hb1⟩ | ⟨hc6, hb1⟩
     ·
      subst hc6
      refine Zt Z (cw_seq (Zr (Zo Z Z Z (Zm Z Z (Zo Z Z Z (ow_lenOwn Z Z hr4 Tryd.underlying59 (Zo Z Z Z (Za Z Z (Zn (Ze (cw_seq (Zr (Zo Z Z Z (Zm Z Z (Zo Z Z Z (ow_gtr Z Z Z fun bb8 hbb8 => Zo Z Z Z (Zm Z Z ?_)))))))))))))))))
      replace hb1 := Zc hb1
      rcases hb1 with ⟨hc7, hb1⟩ | ⟨hc7, hb1⟩
      ·
       obtain rfl := hbb8.trans hc7
       refine lw_on Z Z Z Z Z Z (Zm Z Z (lw_on Z Z Z Z Z Z (Zm Z Z (lw_on Z Z Z Z Z Z (ow_sub Z Z Z ?_)))))
       replace hb1 := bind_some hb1
       obtain ⟨x6, hx6, hb1⟩ := hb1
       refine lw_on Z Z Z Z Z Z (ow_indexRow (R := RSpan) Z Z Z hr4 Tryd.underlying59 (Tryd.sizeOf69 _) hx6 (lw_on Z Z Z Z Z Z (Zf Z Z Tryd.underlying69 Z (Tryd.sizeOf3 _) (lw_on Z Z Z Z Z Z (ow_loadElRow (R := RSpan) (S := RInt) Z Z Z hr4 (orow_blk hr4 hx6) hx6 fld_Span_Hi (Tryd.sizeOf3 _) (Tryd.isAgg3 _) fun v24 hv24 => ?_)))))
       obtain rfl := Zi hv24
       refine lw_on Z Z Z Z Z Z (ow_add Z Z Z (lw_on Z Z Z Z Z Z (Zm Z Z (lw_on Z Z Z Z Z Z (ow_eqlI Z Z Z fun bb9 hbb9 => Zo Z Z Z (ow_pickT Z Z Z (Zn (Ze ?_))))))))
       replace hb1 := Zc hb1
       rcases hb1 with ⟨hc8, hb1⟩ | ⟨hc8, hb1⟩
       ·
        obtain rfl := hbb9.trans hc8
        refine Zt Z (Zr (Zo Z Z Z (Zm Z Z (Zo Z Z Z (Zm Z Z (Zo Z Z Z (ow_sub Z Z Z (Zo Z Z Z (Zm Z Z (Zo Z Z Z (ow_indexRow (R := RSpan) Z Z Z hr4 Tryd.underlying59 (Tryd.sizeOf69 _) hx6 (Zo Z Z Z (Zf Z Z Tryd.underlying69 Z (Tryd.sizeOf3 _) (lw_op0 Z Z (ow_storeElRow (X := No) (R := RSpan) (S := RInt) Z Z Z Z hr4 (orow_blk hr4 hx6) hx6 set_Span_Hi (Tryd.sizeOf3 _) (vint _) (Nat.le_refl _) hC8 fun w9 ho1 hb7 hl9 hC9 => Zn (Ze (Zr (Zo Z Z Z (Zm Z Z (Zo Z Z Z (ow_add Z Z Z (Zo Z Z Z (Za Z Z (Zn (ew_blockN ?_)))))))))))))))))))))))))
        have lz4 := ((lz3.trans hl8).trans hl9)
        exact ew_nxt ((List.set y5 ((W ((y5.length : Int) - 1)) : Int).toNat { x6 with Hi := (imin x3.2 x4.2) }), k5, k7, (W ((imin x3.2 x4.2) + 1))) hb1 fun a ha => ⟨M5, v1, (ha.sub ⟨Z, Z, Z, Z, Z, Z, Z, Z, trivial⟩), lz4, hC9, ho1⟩
       ·
        obtain rfl := hbb9.trans hc8
        refine Zu Z (Zr (Zo Z Z Z (Zm Z Z (Zo Z Z Z (Zm Z Z (Zo Z Z Z (Zm Z Z (Zo Z Z Z (ow_build (v := .agg #[(.int .i64 k3), (.int .i64 (imin x3.2 x4.2))]) Z Z (by kernel_rfl) ?_)))))))))
        have hw6 : VRep RSpan w8 M5 ({ Lo := k3, Hi := (imin x3.2 x4.2) } : Span) (.agg #[(.int .i64 k3), (.int .i64 (imin x3.2 x4.2))]) := shut_Span
        refine Zo Z Z Z (ow_buildSlice (R := RSpan) (xs := [({ Lo := k3, Hi := (imin x3.2 x4.2) } : Span)]) (cs := #[(.int .i64 k3), (.int .i64 (imin x3.2 x4.2))]) (e := 69) Z Z (by kernel_rfl) Z Z ⟨_, _, Z, hw6.cells, Z⟩ hC8 fun p3 w10 hw7 hb8 hl10 hC10 => ?_)
        have hr5 := hr4.no hb8
        replace hb1 := bind_some hb1
        obtain ⟨z1, hz1, hb1⟩ := hb1
        refine Zo Z Z Z (ow_append (R := RSpan) Z Z Z Z Tryd.underlying59 hi69 hz69 hs69 hy69 Z Z Z Z hr5 hw7 hz1 hC10 fun v25 w11 M6 hr6 hb9 hl11 hC11 hM1 hat1 => Zo Z Z Z (Za Z Z (Zn (Ze (Zr (Zo Z Z Z (Zm Z Z (Zo Z Z Z (ow_add Z Z Z (Zo Z Z Z (Za Z Z (Zn (ew_blockN ?_)))))))))))))
        have lz5 := (((lz3.trans hl8).trans hl10).trans hl11)
        exact ew_nxt (z1, k5, k7, (W ((imin x3.2 x4.2) + 1))) hb1 fun a ha => ⟨M6, v25, (ha.sub ⟨Z, Z, Z, Z, Z, Z, Z, Z, trivial⟩), lz5, hC11, hr6⟩
      ·
       obtain rfl := hbb8.trans hc7
       refine lw_off Z Z Z Z Z Z (lw_off Z Z Z Z Z Z (lw_off Z Z Z Z Z Z (lw_off Z Z Z Z Z Z (lw_off Z Z Z Z Z Z (lw_off Z Z Z Z Z Z (lw_off Z Z Z Z Z Z (lw_off Z Z Z Z Z Z (lw_off Z Z Z Z Z Z (Zo Z Z Z (ow_pickF Z Z Z (Zn (Ze (Zu Z (Zr (Zo Z Z Z (Zm Z Z (Zo Z Z Z (Zm Z Z (Zo Z Z Z (Zm Z Z (Zo Z Z Z (ow_build (v := .agg #[(.int .i64 k3), (.int .i64 (imin x3.2 x4.2))]) Z Z (by kernel_rfl) ?_))))))))))))))))))))))
       have hw8 : VRep RSpan w8 M5 ({ Lo := k3, Hi := (imin x3.2 x4.2) } : Span) (.agg #[(.int .i64 k3), (.int .i64 (imin x3.2 x4.2))]) := shut_Span
       refine Zo Z Z Z (ow_buildSlice (R := RSpan) (xs := [({ Lo := k3, Hi := (imin x3.2 x4.2) } : Span)]) (cs := #[(.int .i64 k3), (.int .i64 (imin x3.2 x4.2))]) (e := 69) Z Z (by kernel_rfl) Z Z ⟨_, _, Z, hw8.cells, Z⟩ hC8 fun p4 w12 hw9 hb10 hl12 hC12 => ?_)
       have hr7 := hr4.no hb10
       replace hb1 := bind_some hb1
       obtain ⟨z2, hz2, hb1⟩ := hb1
       refine Zo Z Z Z (ow_append (R := RSpan) Z Z Z Z Tryd.underlying59 hi69 hz69 hs69 hy69 Z Z Z Z hr7 hw9 hz2 hC12 fun v26 w13 M7 hr8 hb11 hl13 hC13 hM2 hat2 => Zo Z Z Z (Za Z Z (Zn (Ze (Zr (Zo Z Z Z (Zm Z Z (Zo Z Z Z (ow_add Z Z Z (Zo Z Z Z (Za Z Z (Zn (ew_blockN ?_)))))))))))))
       have lz6 := (((lz3.trans hl8).trans hl12).trans hl13)
       exact ew_nxt (z2, k5, k7, (W ((imin x3.2 x4.2) + 1))) hb1 fun a ha => ⟨M7, v26, (ha.sub ⟨Z, Z, Z, Z, Z, Z, Z, Z, trivial⟩), lz6, hC13, hr8⟩
     ·
      subst hc6
      exact Zu Z (cw_skip (Ze (Zr (Zo Z Z Z (Zm Z Z (Zo Z Z Z (ow_add Z Z Z (Zo Z Z Z (Za Z Z (Zn (ew_blockN (ew_nxt (y5, k5, k7, (W ((imin x3.2 x4.2) + 1))) hb1 fun a ha => ⟨M5, v1, (ha.sub ⟨Z, Z, Z, Z, Z, Z, Z, Z, trivial⟩), (lz3.trans hl8), hC8, hr4⟩))))))))))))
  ·
   obtain rfl := hbb1.trans hc1
   exact Zu Z (cw_exit (ew_thenX (ew_thenX (ew_blockX (ew_brk (y1, k1, k2, k3) hb1 fun a ha => ⟨M1, v1, (ha.sub ⟨Z, Z, Z, Z, Z, Z, Z, Z, trivial⟩), hl1, hC1, hw1⟩)))))
 ·
  rintro ⟨y8, k8, k9, k10⟩ a w14 hlr6 ⟨M8, v27, hF6, hl14, hC14, hw10⟩
  subst hlr6
  refine ew_at (E := [(0, v0p), (1, v1p), (2, (.int .i64 a_top)), (3, (.func (.func 100) #[] #[])), (9, v27), (10, (.int .i64 k8)), (11, (.int .i64 k9)), (12, (.int .i64 k10))]) hF6 (Ze (cw_seq (Zr (Zo Z Z Z (Zm Z Z (Zo Z Z Z (Za Z Z (Zn (Ze (Zy ?_))))))))))
  obtain rfl := sj h
  exact ew_ret (res1 Z (.tmp Z)) ⟨_, Z, (hw10.freezeBack hC14 hO), hC14.bx⟩

theorem w_impl_meetSpans {w : World} {M : Nat → Prop} (hG : ARep (RArr 4 RShape) w M shapes ⟨0, 0, none⟩) (hO : ∀ b, M b → b < w.heap.size) {v0p : Value} {a_a : List Span} (h0 : VRep (RSlice RSpan) w M a_a v0p) {v1p : Value} {a_b : List Span} (h1 : VRep (RSlice RSpan) w M a_b v1p) {a_top : Int} {r : (List Span) × Bool} (h : F.impl_meetSpans a_a a_b a_top = some r) :
  Calls Tryd.prog 80 [v0p, v1p, (.int .i64 a_top)].toArray w fun e w' => ∃ v, e = .returned v ∧ (∃ u0 u1, v = .tuple #[u0, u1] ∧ VRep (RSlice RSpan) w' M r.1 u0 ∧ VRep RBool w' M r.2 u1) ∧ BX No w w' := by
 have hC : Cx No w M w M := Cx.start hO (fun _ e => e.elim)
 refine walk (N := 15) Tryd.func80 Z Tryd.ntmps80 Z (cw_seq (Zr (Zo Z Z Z (Za Z Z (Zo Z Z Z (Za Z Z (Zn (Ze (cw_seq (Zr (Zo Z Z Z (Zm Z Z (Zo Z Z Z (Zm Z Z (Zo Z Z Z (Zm Z Z ?_))))))))))))))))
 replace h := bind_some h
 obtain ⟨x1, hx1, h⟩ := h
 refine Zo Z Z Z (Zk Z Z Tryd.call78 (w_impl_sweepSpans__impl_inBoth hG hC.old h0 h1 hx1) fun v1 w1 hv1 => ?_)
 obtain ⟨hv1, hb1⟩ := hv1
 have hl1 := Le.no M hb1
 have hC1 := hC.no hb1
 replace h := bind_some h
 obtain ⟨x2, hx2, h⟩ := h
 refine Zo Z Z Z (Zk Z Z Tryd.call99 (w_impl_limitSpans (hG.mono hl1) hC1.old hv1 hx2) fun v2 w2 hv2 => ?_)
 obtain ⟨⟨v3, v4, rfl, hv3, hv4⟩, hb2⟩ := hv2
 have hC2 := hC1.no hb2
 obtain ⟨bb1, hbb1, rfl⟩ := vbool_ex hv4
 refine Zo Z Z Z (ow_extract Z Z Z (Zo Z Z Z (ow_extract Z Z Z (Zo Z Z Z (Za Z Z (Zo Z Z Z (Za Z Z (Zn (Ze (Zy ?_))))))))))
 obtain rfl := sj h
 exact ew_ret (res2 Z (.tmp Z) (.tmp Z)) ⟨_, Z, ⟨_, _, Z, (VRep.mono hC2.back hv3), ((vbool_of hbb1))⟩, hC2.bx⟩

theorem w_impl_firstCommon {w : World} {M : Nat → Prop} (_hG : ARep (RArr 4 RShape) w M shapes ⟨0, 0, none⟩) (hO : ∀ b, M b → b < w.heap.size) {v0p : Value} {a_a : List Span} (h0 : VRep (RSlice RSpan) w M a_a v0p) {v1p : Value} {a_b : List Span} (h1 : VRep (RSlice RSpan) w M a_b v1p) {r : Int × Bool} (h : F.impl_firstCommon a_a a_b = some r) :
  Calls Tryd.prog 113 [v0p, v1p].toArray w fun e w' => ∃ v, e = .returned v ∧ (∃ u0 u1, v = .tuple #[u0, u1] ∧ VRep RInt w' M r.1 u0 ∧ VRep RBool w' M r.2 u1) ∧ BX No w w' := by
 have hC : Cx No w M w M := Cx.start hO (fun _ e => e.elim)
 clear _hG
 refine walk (N := 59) Tryd.func113 Z Tryd.ntmps113 Z (cw_seq (Zr (Zo Z Z Z (Za Z Z (Zo Z Z Z (Za Z Z (Zn (Ze (cw_seq (cw_seq (Zr (Zo Z Z Z (Za Z Z (Zo Z Z Z (Za Z Z (Zn (Ze ?_)))))))))))))))))
 replace h := bind_some h
 obtain ⟨lr1, hlr1, h⟩ := h
 refine cw_for hlr1 (fun s a w' => ∃ (M' : Nat → Prop), Fits 59 [(0, v0p), (1, v1p), (6, (.int .i64 s.1)), (7, (.int .i64 s.2))] a ∧ Le w M w' M' ∧ Cx No w M w' M') ?_ ?_ ?_
 ·
  intro a ha
  exact ⟨M, ha.sub ⟨Z, Z, Z, Z, trivial⟩, Le.refl _ _, hC⟩
 ·
  rintro ⟨k1, k2⟩ a w1 sr1 ⟨M1, hF1, hl1, hC1⟩ hb1 hR1
  refine cw_at (E := [(0, v0p), (1, v1p), (6, (.int .i64 k1)), (7, (.int .i64 k2))]) hF1 (cw_seq (cw_seq (Zr (Zo Z Z Z (Zm Z Z (Zo Z Z Z (Zm Z Z (Zo Z Z Z (ow_len Z Z (VRep.mono hl1 h0) Tryd.underlying59 Z (Zo Z Z Z (ow_lss Z Z Z fun bb1 hbb1 => Zo Z Z Z (Zm Z Z ?_))))))))))))
  replace hb1 := Zc hb1
  rcases hb1 with ⟨hc1, hb1⟩ | ⟨hc1, hb1⟩
  ·
   obtain rfl := hbb1.trans hc1
   refine lw_on Z Z Z Z Z Z (Zm Z Z (lw_on Z Z Z Z Z Z (Zm Z Z (lw_on Z Z Z Z Z Z (ow_len Z Z (VRep.mono hl1 h1) Tryd.underlying59 Z (lw_on Z Z Z Z Z Z (ow_lss Z Z Z fun bb2 hbb2 => Zo Z Z Z (ow_pickT Z Z Z (Zn (Ze ?_))))))))))
   replace hb1 := Zc hb1
   rcases hb1 with ⟨hc2, hb1⟩ | ⟨hc2, hb1⟩
   ·
    obtain rfl := hbb2.trans hc2
    refine Zt Z (cw_skip (Ze (cw_block (cw_seq ?_))))
    replace hb1 := bind_some hb1
    obtain ⟨x1, hx1, hb1⟩ := hb1
    replace hb1 := bind_some hb1
    obtain ⟨x2, hx2, hb1⟩ := hb1
    refine cw_sub (E' := [(0, v0p), (1, v1p), (6, (.int .i64 k1)), (7, (.int .i64 k2))]) ⟨Z, Z, Z, Z, trivial⟩ (cw_drawQ 10 [PV (RSlice RSpan) M1 a_a, PEq (.int .i64 k1), PA RSpan M1 x1, PA RInt M1 x1.Lo, PEq (.int .i64 x1.Lo), PV (RSlice RSpan) M1 a_b, PEq (.int .i64 k2), PA RSpan M1 x2, PA RInt M1 x2.Lo, PEq (.int .i64 x2.Lo)] (by kernel_rfl) Z (by kernel_rfl) ⟨PV.mono _ _ _, Zq, PA.mono _ _ _, PA.mono _ _ _, Zq, PV.mono _ _ _, Zq, PA.mono _ _ _, PA.mono _ _ _, Zq, trivial⟩ ⟨?_, ?_, ?_, ?_, ?_, ?_, ?_, ?_, ?_, ?_, trivial⟩ ?_)
    ·
     intro w2 D hS1 hd1
     have hl2 := Le.no M1 hS1
     exact Zs (E' := [(0, v0p)]) ⟨Z, trivial⟩ (Zp Z (Zm Z Z ⟨BX.refl _ _, (VRep.mono (hl1.trans hl2) h0)⟩))
    ·
     intro w3 D hS2 hd2
     exact Zs (E' := [(6, (.int .i64 k1))]) ⟨Z, trivial⟩ (Zp Z (Zm Z Z Zb))
    ·
     intro w4 D hS3 hd3
     have d1 : PV (RSlice RSpan) M1 a_a (D 0) w4 := dpA hd3 0 Z
     generalize hq1 : (D 0) = v5 at d1
     exact Zs (E' := [(19, v5), (20, (.int .i64 k1))]) ⟨(congrArg some hq1), (dpE hd3 1 Z Z), trivial⟩ (Zp Z (Zx (R := RSpan) Z Z Z d1 Tryd.underlying59 (Tryd.sizeOf69 _) hx1 fun p3 hp3 => ⟨BX.refl _ _, ⟨_, Z, hp3⟩⟩))
    ·
     intro w5 D hS4 hd4
     have d3 : PA RSpan M1 x1 (D 2) w5 := dpA hd4 2 Z
     obtain ⟨p4, e1, ha1⟩ := d3
     exact Zs (E' := [(21, (.pointer (some p4)))]) ⟨(congrArg some e1), trivial⟩ (Zp Z (Zf Z Z Tryd.underlying69 Z (Tryd.sizeOf3 _) ⟨BX.refl _ _, ⟨_, Z, (ha1.fld fld_Span_Lo)⟩⟩))
    ·
     intro w6 D hS5 hd5
     have d4 : PA RInt M1 x1.Lo (D 3) w6 := dpA hd5 3 Z
     obtain ⟨p5, e2, ha2⟩ := d4
     refine Zs (E' := [(22, (.pointer (some p5)))]) ⟨(congrArg some e2), trivial⟩ (Zp Z (Zl (R := RInt) Z Z ha2 (Tryd.sizeOf3 _) (Tryd.isAgg3 _) fun v6 hv6 => ?_))
     obtain rfl := Zi hv6
     exact Zb
    ·
     intro w7 D hS6 hd6
     have hl7 := Le.no M1 hS6
     exact Zs (E' := [(1, v1p)]) ⟨Z, trivial⟩ (Zp Z (Zm Z Z ⟨BX.refl _ _, (VRep.mono (hl1.trans hl7) h1)⟩))
    ·
     intro w8 D hS7 hd7
     exact Zs (E' := [(7, (.int .i64 k2))]) ⟨Z, trivial⟩ (Zp Z (Zm Z Z Zb))
    ·
     intro w9 D hS8 hd8
     have d5 : PV (RSlice RSpan) M1 a_b (D 5) w9 := dpA hd8 5 Z
     generalize hq2 : (D 5) = v7 at d5
     exact Zs (E' := [(24, v7), (25, (.int .i64 k2))]) ⟨(congrArg some hq2), (dpE hd8 6 Z Z), trivial⟩ (Zp Z (Zx (R := RSpan) Z Z Z d5 Tryd.underlying59 (Tryd.sizeOf69 _) hx2 fun p6 hp6 => ⟨BX.refl _ _, ⟨_, Z, hp6⟩⟩))
    ·
     intro w10 D hS9 hd9
     have d7 : PA RSpan M1 x2 (D 7) w10 := dpA hd9 7 Z
     obtain ⟨p7, e3, ha3⟩ := d7
     exact Zs (E' := [(26, (.pointer (some p7)))]) ⟨(congrArg some e3), trivial⟩ (Zp Z (Zf Z Z Tryd.underlying69 Z (Tryd.sizeOf3 _) ⟨BX.refl _ _, ⟨_, Z, (ha3.fld fld_Span_Lo)⟩⟩))
    ·
     intro w11 D hS10 hd10
     have d8 : PA RInt M1 x2.Lo (D 8) w11 := dpA hd10 8 Z
     obtain ⟨p8, e4, ha4⟩ := d8
     refine Zs (E' := [(27, (.pointer (some p8)))]) ⟨(congrArg some e4), trivial⟩ (Zp Z (Zl (R := RInt) Z Z ha4 (Tryd.sizeOf3 _) (Tryd.isAgg3 _) fun v8 hv8 => ?_))
     obtain rfl := Zi hv8
     exact Zb
    ·
     intro w12 D hS11 hd11
     have hl12 := Le.no M1 hS11
     have hC12 := hC1.no hS11
     refine lw_sub (E' := [(23, (.int .i64 x1.Lo)), (28, (.int .i64 x2.Lo)), (0, v0p), (1, v1p), (6, (.int .i64 k1)), (7, (.int .i64 k2))]) ⟨(dpE hd11 4 Z Z), (dpE hd11 9 Z Z), Z, Z, Z, Z, trivial⟩ (Zo Z Z Z (ow_max Z Z Z (Zo Z Z Z (Za Z Z (Zn (Ze (cw_seq (cw_seq ?_))))))))
     have lz1 := (hl1.trans hl12)
     refine cw_sub (E' := [(0, v0p), (1, v1p), (6, (.int .i64 k1)), (7, (.int .i64 k2)), (8, (.int .i64 (imax x1.Lo x2.Lo)))]) ⟨Z, Z, Z, Z, Z, trivial⟩ (cw_drawQ 12 [PEq (.int .i64 (imax x1.Lo x2.Lo)), PV (RSlice RSpan) M1 a_a, PEq (.int .i64 k1), PA RSpan M1 x1, PA RInt M1 x1.Hi, PEq (.int .i64 x1.Hi), PV (RSlice RSpan) M1 a_b, PEq (.int .i64 k2), PA RSpan M1 x2, PA RInt M1 x2.Hi, PEq (.int .i64 x2.Hi), PEq (.int .i64 (imin x1.Hi x2.Hi))] (by kernel_rfl) Z (by kernel_rfl) ⟨Zq, PV.mono _ _ _, Zq, PA.mono _ _ _, PA.mono _ _ _, Zq, PV.mono _ _ _, Zq, PA.mono _ _ _, PA.mono _ _ _, Zq, Zq, trivial⟩ ⟨?_, ?_, ?_, ?_, ?_, ?_, ?_, ?_, ?_, ?_, ?_, ?_, trivial⟩ ?_)
     ·
      intro w13 D hS12 hd12
      exact Zs (E' := [(8, (.int .i64 (imax x1.Lo x2.Lo)))]) ⟨Z, trivial⟩ (Zp Z (Zm Z Z Zb))
     ·
      intro w14 D hS13 hd13
      have hl14 := Le.no M1 hS13
      exact Zs (E' := [(0, v0p)]) ⟨Z, trivial⟩ (Zp Z (Zm Z Z ⟨BX.refl _ _, (VRep.mono (lz1.trans hl14) h0)⟩))
     ·
      intro w15 D hS14 hd14
      exact Zs (E' := [(6, (.int .i64 k1))]) ⟨Z, trivial⟩ (Zp Z (Zm Z Z Zb))
     ·
      intro w16 D hS15 hd15
      have d19 : PV (RSlice RSpan) M1 a_a (D 1) w16 := dpA hd15 1 Z
      generalize hq3 : (D 1) = v11 at d19
      exact Zs (E' := [(31, v11), (32, (.int .i64 k1))]) ⟨(congrArg some hq3), (dpE hd15 2 Z Z), trivial⟩ (Zp Z (Zx (R := RSpan) Z Z Z d19 Tryd.underlying59 (Tryd.sizeOf69 _) hx1 fun p11 hp11 => ⟨BX.refl _ _, ⟨_, Z, hp11⟩⟩))
     ·
      intro w17 D hS16 hd16
      have d21 : PA RSpan M1 x1 (D 3) w17 := dpA hd16 3 Z
      obtain ⟨p12, e5, ha5⟩ := d21
      exact Zs (E' := [(33, (.pointer (some p12)))]) ⟨(congrArg some e5), trivial⟩ (Zp Z (Zf Z Z Tryd.underlying69 Z (Tryd.sizeOf3 _) ⟨BX.refl _ _, ⟨_, Z, (ha5.fld fld_Span_Hi)⟩⟩))
     ·
      intro w18 D hS17 hd17
      have d22 : PA RInt M1 x1.Hi (D 4) w18 := dpA hd17 4 Z
      obtain ⟨p13, e6, ha6⟩ := d22
      refine Zs (E' := [(34, (.pointer (some p13)))]) ⟨(congrArg some e6), trivial⟩ (Zp Z (Zl (R := RInt) Z Z ha6 (Tryd.sizeOf3 _) (Tryd.isAgg3 _) fun v12 hv12 => ?_))
      obtain rfl := Zi hv12
      exact Zb
     ·
      intro w19 D hS18 hd18
      have hl19 := Le.no M1 hS18
      exact Zs (E' := [(1, v1p)]) ⟨Z, trivial⟩ (Zp Z (Zm Z Z ⟨BX.refl _ _, (VRep.mono (lz1.trans hl19) h1)⟩))
     ·
      intro w20 D hS19 hd19
      exact Zs (E' := [(7, (.int .i64 k2))]) ⟨Z, trivial⟩ (Zp Z (Zm Z Z Zb))
     ·
      intro w21 D hS20 hd20
      have d23 : PV (RSlice RSpan) M1 a_b (D 6) w21 := dpA hd20 6 Z
      generalize hq4 : (D 6) = v13 at d23
      exact Zs (E' := [(36, v13), (37, (.int .i64 k2))]) ⟨(congrArg some hq4), (dpE hd20 7 Z Z), trivial⟩ (Zp Z (Zx (R := RSpan) Z Z Z d23 Tryd.underlying59 (Tryd.sizeOf69 _) hx2 fun p14 hp14 => ⟨BX.refl _ _, ⟨_, Z, hp14⟩⟩))
     ·
      intro w22 D hS21 hd21
      have d25 : PA RSpan M1 x2 (D 8) w22 := dpA hd21 8 Z
      obtain ⟨p15, e7, ha7⟩ := d25
      exact Zs (E' := [(38, (.pointer (some p15)))]) ⟨(congrArg some e7), trivial⟩ (Zp Z (Zf Z Z Tryd.underlying69 Z (Tryd.sizeOf3 _) ⟨BX.refl _ _, ⟨_, Z, (ha7.fld fld_Span_Hi)⟩⟩))
     ·
      intro w23 D hS22 hd22
      have d26 : PA RInt M1 x2.Hi (D 9) w23 := dpA hd22 9 Z
      obtain ⟨p16, e8, ha8⟩ := d26
      refine Zs (E' := [(39, (.pointer (some p16)))]) ⟨(congrArg some e8), trivial⟩ (Zp Z (Zl (R := RInt) Z Z ha8 (Tryd.sizeOf3 _) (Tryd.isAgg3 _) fun v14 hv14 => ?_))
      obtain rfl := Zi hv14
      exact Zb
     ·
      intro w24 D hS23 hd23
      exact Zs (E' := [(35, (.int .i64 x1.Hi)), (40, (.int .i64 x2.Hi))]) ⟨(dpE hd23 5 Z Z), (dpE hd23 10 Z Z), trivial⟩ (Zp Z (ow_min Z Z Z Zb))
     ·
      intro w25 D hS24 hd24
      have hl25 := Le.no M1 hS24
      have hC25 := hC12.no hS24
      refine lw_sub (E' := [(30, (.int .i64 (imax x1.Lo x2.Lo))), (41, (.int .i64 (imin x1.Hi x2.Hi))), (0, v0p), (1, v1p), (6, (.int .i64 k1)), (7, (.int .i64 k2)), (8, (.int .i64 (imax x1.Lo x2.Lo)))]) ⟨(dpE hd24 0 Z Z), (dpE hd24 11 Z Z), Z, Z, Z, Z, Z, trivial⟩ (Zo Z Z Z (ow_leq Z Z Z fun bb3 hbb3 => Zn (Ze ?_)))
      replace hb1 := Zc hb1
      rcases hb1 with ⟨hc3, hb1⟩ | ⟨hc3, hb1⟩
      ·
       obtain rfl := hbb3.trans hc3
       refine Zt Z (cw_seq (Zr (Zo Z Z Z (Zm Z Z (Zo Z Z Z (Za Z Z (Zo Z Z Z (Za Z Z (Zn (Ze (Zy (Zh (ew_blockR (Zh (ew_blockR (ew_brkR (Zh ?_)))))))))))))))))
       have e9 := hR1 _ (sj hb1).symm
       subst e9
       obtain rfl := sj h
       exact ew_ret (res2 Z (.tmp Z) (.tmp Z)) ⟨_, Z, ⟨_, _, Z, ((vint _)), ((vbool _))⟩, hC25.bx⟩
      ·
       obtain rfl := hbb3.trans hc3
       refine Zu Z (cw_skip (Ze (cw_seq ?_)))
       have lz2 := (lz1.trans hl25)
       refine cw_sub (E' := [(0, v0p), (1, v1p), (6, (.int .i64 k1)), (7, (.int .i64 k2))]) ⟨Z, Z, Z, Z, trivial⟩ (cw_drawQ 10 [PV (RSlice RSpan) M1 a_a, PEq (.int .i64 k1), PA RSpan M1 x1, PA RInt M1 x1.Hi, PEq (.int .i64 x1.Hi), PV (RSlice RSpan) M1 a_b, PEq (.int .i64 k2), PA RSpan M1 x2, PA RInt M1 x2.Hi, PEq (.int .i64 x2.Hi)] (by kernel_rfl) Z (by kernel_rfl) ⟨PV.mono _ _ _, Zq, PA.mono _ _ _, PA.mono _ _ _, Zq, PV.mono _ _ _, Zq, PA.mono _ _ _, PA.mono _ _ _, Zq, trivial⟩ ⟨?_, ?_, ?_, ?_, ?_, ?_, ?_, ?_, ?_, ?_, trivial⟩ ?_)
       ·
        intro w26 D hS25 hd25
        have hl26 := Le.no M1 hS25
        exact Zs (E' := [(0, v0p)]) ⟨Z, trivial⟩ (Zp Z (Zm Z Z ⟨BX.refl _ _, (VRep.mono (lz2.trans hl26) h0)⟩))
       ·
        intro w27 D hS26 hd26
        exact Zs (E' := [(6, (.int .i64 k1))]) ⟨Z, trivial⟩ (Zp Z (Zm Z Z Zb))
       ·
        intro w28 D hS27 hd27
        have d41 : PV (RSlice RSpan) M1 a_a (D 0) w28 := dpA hd27 0 Z
        generalize hq5 : (D 0) = v17 at d41
        exact Zs (E' := [(44, v17), (45, (.int .i64 k1))]) ⟨(congrArg some hq5), (dpE hd27 1 Z Z), trivial⟩ (Zp Z (Zx (R := RSpan) Z Z Z d41 Tryd.underlying59 (Tryd.sizeOf69 _) hx1 fun p19 hp19 => ⟨BX.refl _ _, ⟨_, Z, hp19⟩⟩))
       ·
        intro w29 D hS28 hd28
        have d43 : PA RSpan M1 x1 (D 2) w29 := dpA hd28 2 Z
        obtain ⟨p20, e10, ha9⟩ := d43
        exact Zs (E' := [(46, (.pointer (some p20)))]) ⟨(congrArg some e10), trivial⟩ (Zp Z (Zf Z Z Tryd.underlying69 Z (Tryd.sizeOf3 _) ⟨BX.refl _ _, ⟨_, Z, (ha9.fld fld_Span_Hi)⟩⟩))
       ·
        intro w30 D hS29 hd29
        have d44 : PA RInt M1 x1.Hi (D 3) w30 := dpA hd29 3 Z
        obtain ⟨p21, e11, ha10⟩ := d44
        refine Zs (E' := [(47, (.pointer (some p21)))]) ⟨(congrArg some e11), trivial⟩ (Zp Z (Zl (R := RInt) Z Z ha10 (Tryd.sizeOf3 _) (Tryd.isAgg3 _) fun v18 hv18 => ?_))
        obtain rfl := Zi hv18
        exact Zb
       ·
        intro w31 D hS30 hd30
        have hl31 := Le.no M1 hS30
        exact Zs (E' := [(1, v1p)]) ⟨Z, trivial⟩ (Zp Z (Zm Z Z ⟨BX.refl _ _, (VRep.mono (lz2.trans hl31) h1)⟩))
       ·
        intro w32 D hS31 hd31
        exact Zs (E' := [(7, (.int .i64 k2))]) ⟨Z, trivial⟩ (Zp Z (Zm Z Z Zb))
       ·
        intro w33 D hS32 hd32
        have d45 : PV (RSlice RSpan) M1 a_b (D 5) w33 := dpA hd32 5 Z
        generalize hq6 : (D 5) = v19 at d45
        exact Zs (E' := [(49, v19), (50, (.int .i64 k2))]) ⟨(congrArg some hq6), (dpE hd32 6 Z Z), trivial⟩ (Zp Z (Zx (R := RSpan) Z Z Z d45 Tryd.underlying59 (Tryd.sizeOf69 _) hx2 fun p22 hp22 => ⟨BX.refl _ _, ⟨_, Z, hp22⟩⟩))
       ·
        intro w34 D hS33 hd33
        have d47 : PA RSpan M1 x2 (D 7) w34 := dpA hd33 7 Z
        obtain ⟨p23, e12, ha11⟩ := d47
        exact Zs (E' := [(51, (.pointer (some p23)))]) ⟨(congrArg some e12), trivial⟩ (Zp Z (Zf Z Z Tryd.underlying69 Z (Tryd.sizeOf3 _) ⟨BX.refl _ _, ⟨_, Z, (ha11.fld fld_Span_Hi)⟩⟩))
       ·
        intro w35 D hS34 hd34
        have d48 : PA RInt M1 x2.Hi (D 8) w35 := dpA hd34 8 Z
        obtain ⟨p24, e13, ha12⟩ := d48
        refine Zs (E' := [(52, (.pointer (some p24)))]) ⟨(congrArg some e13), trivial⟩ (Zp Z (Zl (R := RInt) Z Z ha12 (Tryd.sizeOf3 _) (Tryd.isAgg3 _) fun v20 hv20 => ?_))
        obtain rfl := Zi hv20
        exact Zb
       ·
        intro w36 D hS35 hd35
        have hl36 := Le.no M1 hS35
        have hC36 := hC25.no hS35
        refine lw_sub (E' := [(48, (.int .i64 x1.Hi)), (53, (.int .i64 x2.Hi)), (0, v0p), (1, v1p), (6, (.int .i64 k1)), (7, (.int .i64 k2))]) ⟨(dpE hd35 4 Z Z), (dpE hd35 9 Z Z), Z, Z, Z, Z, trivial⟩ (Zo Z Z Z (ow_lss Z Z Z fun bb4 hbb4 => Zn (Ze ?_)))
        replace hb1 := Zc hb1
        rcases hb1 with ⟨hc4, hb1⟩ | ⟨hc4, hb1⟩
        ·
         obtain rfl := hbb4.trans hc4
         exact Zt Z (Zr (Zo Z Z Z (Zm Z Z (Zo Z Z Z (ow_add Z Z Z (Zo Z Z Z (Za Z Z (Zn (ew_blockN (ew_nxt ((W (k1 + 1)), k2) hb1 fun a ha => ⟨M1, (ha.sub ⟨Z, Z, Z, Z, trivial⟩), (lz2.trans hl36), hC36⟩))))))))))
        ·
         obtain rfl := hbb4.trans hc4
         exact Zu Z (Zr (Zo Z Z Z (Zm Z Z (Zo Z Z Z (ow_add Z Z Z (Zo Z Z Z (Za Z Z (Zn (ew_blockN (ew_nxt (k1, (W (k2 + 1))) hb1 fun a ha => ⟨M1, (ha.sub ⟨Z, Z, Z, Z, trivial⟩), (lz2.trans hl36), hC36⟩))))))))))
   ·
    obtain rfl := hbb2.trans hc2
    exact Zu Z (cw_exit (ew_thenX (ew_thenX (ew_blockX (ew_brk (k1, k2) hb1 fun a ha => ⟨M1, (ha.sub ⟨Z, Z, Z, Z, trivial⟩), hl1, hC1⟩)))))
  ·
   obtain rfl := hbb1.trans hc1
   exact lw_off Z Z Z Z Z Z (lw_off Z Z Z Z Z Z (lw_off Z Z Z Z Z Z (lw_off Z Z Z Z Z Z (Zo Z Z Z (ow_pickF Z Z Z (Zn (Ze (Zu Z (cw_exit (ew_thenX (ew_thenX (ew_blockX (ew_brk (k1, k2) hb1 fun a ha => ⟨M1, (ha.sub ⟨Z, Z, Z, Z, trivial⟩), hl1, hC1⟩)))))))))))))
 ·
  rintro ⟨k3, k4⟩ a w37 hlr2 ⟨M2, hF2, hl37, hC37⟩
  subst hlr2
  refine ew_at (E := [(0, v0p), (1, v1p), (6, (.int .i64 k3)), (7, (.int .i64 k4))]) hF2 (Ze (cw_seq (Zr (Zo Z Z Z (Za Z Z (Zo Z Z Z (Za Z Z (Zn (Ze (Zy ?_))))))))))
  obtain rfl := sj h
  exact ew_ret (res2 Z (.tmp Z) (.tmp Z)) ⟨_, Z, ⟨_, _, Z, ((vint _)), ((vbool _))⟩, hC37.bx⟩

theorem w_impl_packetOf {w : World} {M : Nat → Prop} (_hG : ARep (RArr 4 RShape) w M shapes ⟨0, 0, none⟩) (hO : ∀ b, M b → b < w.heap.size) {v0p : Value} {a_fields : List Int} (h0 : VRep (RArr 4 RInt) w M a_fields v0p) {r : Packet} (h : F.impl_packetOf a_fields = some r) :
  Calls Tryd.prog 114 [v0p].toArray w fun e w' => ∃ v, e = .returned v ∧ VRep RPacket w' M r v ∧ BX No w w' := by
 have hC : Cx No w M w M := Cx.start hO (fun _ e => e.elim)
 clear _hG
 refine walk (N := 12) Tryd.func114 Z Tryd.ntmps114 Z (cw_seq (Zr (Zo Z Z Z (ow_box (R := (RArr 4 RInt)) Z Z h0 hC fun p1 w1 hp1 hb1 hl1 hC1 => Zo Z Z Z (ow_alloc Z (Tryd.zeroValue34 _) hC1 fun g1 w2 hg1 hg2 ho1 hb2 hl2 hC2 => ?_)))))
 have hm1 : (Add g1 M) g1 := .inl Z
 refine Zn (Ze (cw_seq (Zr ?_)))
 replace h := bind_some h
 obtain ⟨x1, hx1, h⟩ := h
 refine Zo Z Z Z (ow_indexArr (R := RInt) Z Z Z (ARep.mono hl2 hp1) Tryd.underlying106 (Tryd.sizeOf3 _) hx1 fun p2 hp2 => Zo Z Z Z (Zl (R := RInt) Z Z hp2 (Tryd.sizeOf3 _) (Tryd.isAgg3 _) fun v1 hv1 => ?_))
 obtain rfl := Zi hv1
 replace h := bind_some h
 obtain ⟨x2, hx2, h⟩ := h
 refine Zo Z Z Z (ow_indexArr (R := RInt) Z Z Z (ARep.mono hl2 hp1) Tryd.underlying106 (Tryd.sizeOf3 _) hx2 fun p3 hp3 => Zo Z Z Z (Zl (R := RInt) Z Z hp3 (Tryd.sizeOf3 _) (Tryd.isAgg3 _) fun v2 hv2 => ?_))
 obtain rfl := Zi hv2
 replace h := bind_some h
 obtain ⟨x3, hx3, h⟩ := h
 refine Zo Z Z Z (ow_indexArr (R := RInt) Z Z Z (ARep.mono hl2 hp1) Tryd.underlying106 (Tryd.sizeOf3 _) hx3 fun p4 hp4 => Zo Z Z Z (Zl (R := RInt) Z Z hp4 (Tryd.sizeOf3 _) (Tryd.isAgg3 _) fun v3 hv3 => ?_))
 obtain rfl := Zi hv3
 replace h := bind_some h
 obtain ⟨x4, hx4, h⟩ := h
 refine Zo Z Z Z (ow_indexArr (R := RInt) Z Z Z (ARep.mono hl2 hp1) Tryd.underlying106 (Tryd.sizeOf3 _) hx4 fun p5 hp5 => Zo Z Z Z (Zl (R := RInt) Z Z hp5 (Tryd.sizeOf3 _) (Tryd.isAgg3 _) fun v4 hv4 => ?_))
 obtain rfl := Zi hv4
 refine Zo Z Z Z (ow_build (v := .agg #[(.int .i64 x1), (.int .i64 x2), (.int .i64 x3), (.int .i64 x4)]) Z Z (by kernel_rfl) (lw_op0 Z Z (ow_store (X := No) (us := [(.int .i64 x1), (.int .i64 x2), (.int .i64 x3), (.int .i64 x4)]) (cs' := #[(.int .i64 x1), (.int .i64 x2), (.int .i64 x3), (.int .i64 x4)]) Z Z Z Z ho1 (Tryd.sizeOf34 _) Z Z Z Z hm1 (.inl hg2) Z hC2 fun w3 ho2 hb3 hl3 hC3 => Zn (Ze (Zy ?_)))))
 have hw2 : VRep RPacket w3 (Add g1 M) ({ From := x1, To := x2, Port := x3, Proto := x4 } : Packet) (.agg #[(.int .i64 x1), (.int .i64 x2), (.int .i64 x3), (.int .i64 x4)]) := shut_Packet
 obtain rfl := sj h
 exact ew_ret (res1 Z (.cell Z (own_loadVarA ho2 (Tryd.isAgg34 _) (Tryd.sizeOf34 _) Z))) ⟨_, Z, (hw2.mono hC3.back), hC3.bx⟩

theorem w_impl_sides_firstCommon {w : World} {M : Nat → Prop} (hG : ARep (RArr 4 RShape) w M shapes ⟨0, 0, none⟩) (hO : ∀ b, M b → b < w.heap.size) {v0p : Value} {a_s : List (List Span)} (h0 : VRep (RArr 4 (RSlice RSpan)) w M a_s v0p) {v1p : Value} {a_other : List (List Span)} (h1 : VRep (RArr 4 (RSlice RSpan)) w M a_other v1p) {r : Packet × Bool} (h : F.impl_sides_firstCommon a_s a_other = some r) :
  Calls Tryd.prog 108 [v0p, v1p].toArray w fun e w' => ∃ v, e = .returned v ∧ (∃ u0 u1, v = .tuple #[u0, u1] ∧ VRep RPacket w' M r.1 u0 ∧ VRep RBool w' M r.2 u1) ∧ BX No w w' := by
 have hC : Cx No w M w M := Cx.start hO (fun _ e => e.elim)
 refine walk (N := 32) Tryd.func108 Z Tryd.ntmps108 Z (cw_seq (Zr (Zo Z Z Z (ow_box (R := (RArr 4 (RSlice RSpan))) Z Z h0 hC fun p1 w1 hp1 hb1 hl1 hC1 => Zo Z Z Z (ow_box (R := (RArr 4 (RSlice RSpan))) Z Z (VRep.mono hl1 h1) hC1 fun p2 w2 hp2 hb2 hl2 hC2 => Zo Z Z Z (ow_alloc Z (Tryd.zeroValue34 _) hC2 fun g1 w3 hg1 hg2 ho1 hb3 hl3 hC3 => ?_))))))
 have hm1 : (Add g1 M) g1 := .inl Z
 refine Zo Z Z Z (Za Z Z (Zn (Ze (cw_seq (Zr (Zo Z Z Z (ow_alloc Z (Tryd.zeroValue106 _) hC3 fun g2 w4 hg3 hg4 ho2 hb4 hl4 hC4 => ?_)))))))
 have hn1 := Nat.ne_of_lt (Nat.lt_of_lt_of_le ho1.lt hg3)
 have ho3 := ho1.no hb4
 have hm2 : (Add g2 (Add g1 M)) g1 := .inr hm1
 have hm3 : (Add g2 (Add g1 M)) g2 := .inl Z
 have ho4 : OwnA (RArr 4 RInt) w4 (Add g2 (Add g1 M)) g2 106 [0, 0, 0, 0] := OwnA.of ho2 ⟨Z, ⟨_, _, Z, (vint _).cells, _, _, Z, (vint _).cells, _, _, Z, (vint _).cells, _, _, Z, (vint _).cells, Z⟩⟩
 refine Zn (Ze (cw_seq (cw_seq (Zr (Zo Z Z Z (Zm Z Z (Zn (Ze ?_))))))))
 replace h := bind_some h
 obtain ⟨lr1, hlr1, h⟩ := h
 refine cw_for hlr1 (fun s a w' => ∃ (M' : Nat → Prop), Fits 32 [(2, (.pointer (some p1))), (3, (.pointer (some p2))), (4, (.pointer (some ⟨g1, 0, none⟩))), (6, (.pointer (some ⟨g2, 0, none⟩))), (10, (.int .i64 s.1))] a ∧ Le w4 (Add g2 (Add g1 M)) w' M' ∧ Cx No w M w' M' ∧ Own w' g1 34 #[(.int .i64 s.2.1), (.int .i64 s.2.2.1), (.int .i64 s.2.2.2.1), (.int .i64 s.2.2.2.2.1)] ∧ M' g1 ∧ OwnA (RArr 4 RInt) w' M' g2 106 s.2.2.2.2.2 ∧ M' g2) ?_ ?_ ?_
 ·
  intro a ha
  exact ⟨(Add g2 (Add g1 M)), ha.sub ⟨Z, Z, Z, Z, Z, trivial⟩, Le.refl _ _, hC4, ho3, hm2, ho4, hm3⟩
 ·
  rintro ⟨k1, k2, k3, k4, k5, y1⟩ a w5 sr1 ⟨M1, hF1, hl5, hC5, ho5, hm4, ho6, hm5⟩ hb5 hR1
  refine cw_at (E := [(2, (.pointer (some p1))), (3, (.pointer (some p2))), (4, (.pointer (some ⟨g1, 0, none⟩))), (6, (.pointer (some ⟨g2, 0, none⟩))), (10, (.int .i64 k1))]) hF1 (cw_seq (Zr (Zo Z Z Z (ow_lss Z Z Z fun bb1 hbb1 => Zn (Ze (cw_seq ?_))))))
  replace hb5 := Zc hb5
  rcases hb5 with ⟨hc1, hb5⟩ | ⟨hc1, hb5⟩
  ·
   obtain rfl := hbb1.trans hc1
   refine Zt Z (cw_skip (Ze (cw_seq (cw_block (cw_seq (Zr (Zo Z Z Z (Zm Z Z (Zo Z Z Z (Za Z Z (Zn (Ze (cw_seq ?_)))))))))))))
   replace hb5 := bind_some hb5
   obtain ⟨x1, hx1, hb5⟩ := hb5
   replace hb5 := bind_some hb5
   obtain ⟨x2, hx2, hb5⟩ := hb5
   replace hb5 := bind_some hb5
   obtain ⟨x3, hx3, hb5⟩ := hb5
   have lz1 := ((((hl1.trans hl2).trans hl3).trans hl4).trans hl5)
   have lz2 := (((hl2.trans hl3).trans hl4).trans hl5)
   have lz3 := ((hl3.trans hl4).trans hl5)
   refine cw_sub (E' := [(2, (.pointer (some p1))), (3, (.pointer (some p2))), (4, (.pointer (some ⟨g1, 0, none⟩))), (6, (.pointer (some ⟨g2, 0, none⟩))), (7, (.int .i64 k1)), (10, (.int .i64 k1))]) ⟨Z, Z, Z, Z, Z, Z, trivial⟩ (cw_drawQ 11 [PEq (.int .i64 k1), PA (RSlice RSpan) M1 x1, PV (RSlice RSpan) M1 x1, PEq (.int .i64 k1), PA (RSlice RSpan) M1 x2, PV (RSlice RSpan) M1 x2, PT2 (PEq (.int .i64 x3.1)) (PEq (.bool x3.2)), PT2 (PEq (.int .i64 x3.1)) (PEq (.bool x3.2)), PEq (.int .i64 x3.1), PEq (.bool x3.2), PEq (.int .i64 x3.1)] (by kernel_rfl) Z (by kernel_rfl) ⟨Zq, PA.mono _ _ _, PV.mono _ _ _, Zq, PA.mono _ _ _, PV.mono _ _ _, (PT2.mono (Zq) (Zq)), (PT2.mono (Zq) (Zq)), Zq, Zq, Zq, trivial⟩ ⟨?_, ?_, ?_, ?_, ?_, ?_, ?_, ?_, ?_, ?_, ?_, trivial⟩ ?_)
   ·
    intro w7 D hS1 hd1
    exact Zs (E' := [(7, (.int .i64 k1))]) ⟨Z, trivial⟩ (Zp Z (Zm Z Z Zb))
   ·
    intro w8 D hS2 hd2
    have hl8 := Le.no M1 hS2
    exact Zs (E' := [(14, (.int .i64 k1)), (2, (.pointer (some p1)))]) ⟨(dpE hd2 0 Z Z), Z, trivial⟩ (Zp Z (ow_indexArr (R := (RSlice RSpan)) Z Z Z (ARep.mono (lz2.trans hl8) hp1) Tryd.underlying61 (Tryd.sizeOf59 _) hx1 fun p5 hp5 => ⟨BX.refl _ _, ⟨_, Z, hp5⟩⟩))
   ·
    intro w9 D hS3 hd3
    have d2 : PA (RSlice RSpan) M1 x1 (D 1) w9 := dpA hd3 1 Z
    obtain ⟨p6, e1, ha1⟩ := d2
    exact Zs (E' := [(15, (.pointer (some p6)))]) ⟨(congrArg some e1), trivial⟩ (Zp Z (Zl (R := (RSlice RSpan)) Z Z ha1 (Tryd.sizeOf59 _) (Tryd.isAgg59 _) fun v12 hv12 => ⟨BX.refl _ _, hv12⟩))
   ·
    intro w10 D hS4 hd4
    exact Zs (E' := [(7, (.int .i64 k1))]) ⟨Z, trivial⟩ (Zp Z (Zm Z Z Zb))
   ·
    intro w11 D hS5 hd5
    have hl11 := Le.no M1 hS5
    exact Zs (E' := [(17, (.int .i64 k1)), (3, (.pointer (some p2)))]) ⟨(dpE hd5 3 Z Z), Z, trivial⟩ (Zp Z (ow_indexArr (R := (RSlice RSpan)) Z Z Z (ARep.mono (lz3.trans hl11) hp2) Tryd.underlying61 (Tryd.sizeOf59 _) hx2 fun p7 hp7 => ⟨BX.refl _ _, ⟨_, Z, hp7⟩⟩))
   ·
    intro w12 D hS6 hd6
    have d4 : PA (RSlice RSpan) M1 x2 (D 4) w12 := dpA hd6 4 Z
    obtain ⟨p8, e2, ha2⟩ := d4
    exact Zs (E' := [(18, (.pointer (some p8)))]) ⟨(congrArg some e2), trivial⟩ (Zp Z (Zl (R := (RSlice RSpan)) Z Z ha2 (Tryd.sizeOf59 _) (Tryd.isAgg59 _) fun v13 hv13 => ⟨BX.refl _ _, hv13⟩))
   ·
    intro w13 D hS7 hd7
    have hl13 := Le.no M1 hS7
    have hC13 := hC5.no hS7
    have d5 : PV (RSlice RSpan) M1 x1 (D 2) w13 := dpA hd7 2 Z
    have d6 : PV (RSlice RSpan) M1 x2 (D 5) w13 := dpA hd7 5 Z
    generalize hq1 : (D 2) = v14 at d5
    generalize hq2 : (D 5) = v15 at d6
    refine Zs (E' := [(16, v14), (19, v15)]) ⟨(congrArg some hq1), (congrArg some hq2), trivial⟩ (Zp Z (Zk Z Z Tryd.call113 (w_impl_firstCommon (hG.mono (lz1.trans hl13)) hC13.old d5 d6 hx3) fun v16 w14 hv16 => ?_))
    obtain ⟨⟨v17, v18, rfl, hv17, hv18⟩, hb7⟩ := hv16
    obtain rfl := Zi hv17
    obtain ⟨bb3, hbb3, rfl⟩ := vbool_ex hv18
    exact ⟨hb7, ⟨_, _, Z, Z, (congrArg Value.bool hbb3)⟩⟩
   ·
    intro w15 D hS8 hd8
    have d7 : PT2 (PEq (.int .i64 x3.1)) (PEq (.bool x3.2)) (D 6) w15 := dpA hd8 6 Z
    obtain ⟨v19, v20, e3, hd9, hd10⟩ := d7
    subst hd9
    obtain ⟨bb4, hq3, rfl⟩ : ∃ b, b = x3.2 ∧ v20 = .bool b := ⟨_, rfl, hd10⟩
    exact Zs (E' := [(20, (.tuple #[(.int .i64 x3.1), (.bool bb4)]))]) ⟨(congrArg some e3), trivial⟩ (Zp Z (Zm Z Z ⟨BX.refl _ _, ⟨_, _, Z, Z, (congrArg Value.bool hq3)⟩⟩))
   ·
    intro w16 D hS9 hd11
    have d8 : PT2 (PEq (.int .i64 x3.1)) (PEq (.bool x3.2)) (D 7) w16 := dpA hd11 7 Z
    obtain ⟨v21, v22, e4, hd12, hd13⟩ := d8
    subst hd12
    obtain ⟨bb5, hq4, rfl⟩ : ∃ b, b = x3.2 ∧ v22 = .bool b := ⟨_, rfl, hd13⟩
    exact Zs (E' := [(13, (.tuple #[(.int .i64 x3.1), (.bool bb5)]))]) ⟨(congrArg some e4), trivial⟩ (Zp Z (ow_extract Z Z Z Zb))
   ·
    intro w17 D hS10 hd14
    have d9 : PT2 (PEq (.int .i64 x3.1)) (PEq (.bool x3.2)) (D 7) w17 := dpA hd14 7 Z
    obtain ⟨v23, v24, e5, hd15, hd16⟩ := d9
    subst hd15
    obtain ⟨bb6, hq5, rfl⟩ : ∃ b, b = x3.2 ∧ v24 = .bool b := ⟨_, rfl, hd16⟩
    exact Zs (E' := [(13, (.tuple #[(.int .i64 x3.1), (.bool bb6)]))]) ⟨(congrArg some e5), trivial⟩ (Zp Z (ow_extract Z Z Z ⟨BX.refl _ _, (congrArg Value.bool hq5)⟩))
   ·
    intro w18 D hS11 hd17
    exact Zs (E' := [(21, (.int .i64 x3.1))]) ⟨(dpE hd17 8 Z Z), trivial⟩ (Zp Z (Za Z Z Zb))
   ·
    intro w19 D hS12 hd18
    have d30 : PEq (.bool x3.2) (D 9) w19 := dpA hd18 9 Z
    have hl19 := Le.no M1 hS12
    have hC19 := hC5.no hS12
    have ho33 := ho5.no hS12
    have ho34 := ho6.no hS12 hl19
    obtain ⟨bb7, hq6, hq7⟩ : ∃ b, b = x3.2 ∧ (D 9) = .bool b := ⟨_, rfl, d30⟩
    refine lw_sub (E' := [(22, (.bool bb7)), (8, (.int .i64 x3.1)), (2, (.pointer (some p1))), (3, (.pointer (some p2))), (4, (.pointer (some ⟨g1, 0, none⟩))), (6, (.pointer (some ⟨g2, 0, none⟩))), (7, (.int .i64 k1)), (10, (.int .i64 k1))]) ⟨(congrArg some hq7), (dpE hd18 10 Z Z), Z, Z, Z, Z, Z, Z, trivial⟩ (Zo Z Z Z (Za Z Z (Zn (Ze (cw_seq (cw_seq (Zr (Zo Z Z Z (Zm Z Z (Zo Z Z Z (ow_not Z Z (Zn (Ze ?_)))))))))))))
    replace hb5 := Zc hb5
    rcases hb5 with ⟨hc2, hb5⟩ | ⟨hc2, hb5⟩
    ·
     obtain rfl := hq6.trans hc2
     refine Zu Z (cw_skip (Ze (Zr (Zo Z Z Z (Zm Z Z (Zo Z Z Z (Zm Z Z ?_)))))))
     replace hb5 := bind_some hb5
     obtain ⟨x4, hx4, hb5⟩ := hb5
     refine Zo Z Z Z (ow_indexA (R := RInt) Z Z Z Z ho34 Tryd.underlying106 (Tryd.sizeOf3 _) hx4 (lw_op0 Z Z (ow_storeElA (X := No) (R := RInt) Z Z Z Z ho34 hx4 (Tryd.sizeOf3 _) (vint _) hm5 (.inl hg4) hC19 fun w20 ho35 hb8 hl20 hC20 => ?_)))
     have ho36 := ho33.go hb8 (fun e => hn1 e)
     refine Zn (ew_blockN (Ze (Zr (Zo Z Z Z (ow_add Z Z Z (Zo Z Z Z (Zm Z Z (Zn ?_))))))))
     have lz4 := ((hl5.trans hl19).trans hl20)
     exact ew_nxt ((W (k1 + 1)), k2, k3, k4, k5, (List.set y1 (k1 : Int).toNat x3.1)) hb5 fun a ha => ⟨M1, (ha.sub ⟨Z, Z, Z, Z, Z, trivial⟩), lz4, hC20, ho36, hm4, ho35, hm5⟩
    ·
     obtain rfl := hq6.trans hc2
     refine Zt Z (cw_seq (Zr (Zo Z Z Z (ow_build (v := .agg #[(.int .i64 0), (.int .i64 0), (.int .i64 0), (.int .i64 0)]) Z Z (by kernel_rfl) (lw_op0 Z Z (ow_store (X := No) (us := [(.int .i64 0), (.int .i64 0), (.int .i64 0), (.int .i64 0)]) (cs' := #[(.int .i64 0), (.int .i64 0), (.int .i64 0), (.int .i64 0)]) Z Z Z Z ho33 (Tryd.sizeOf34 _) Z Z Z Z hm4 (.inl hg2) Z hC19 fun w21 ho37 hb9 hl21 hC21 => Zo Z Z Z (Za Z Z (Zn (Ze (Zy (Zh (ew_blockR (Zh (Zh (ew_blockR (ew_brkR (Zh ?_)))))))))))))))))
     have hw2 : VRep RPacket w21 M1 ({ From := 0, To := 0, Port := 0, Proto := 0 } : Packet) (.agg #[(.int .i64 0), (.int .i64 0), (.int .i64 0), (.int .i64 0)]) := shut_Packet
     have e6 := hR1 _ (sj hb5).symm
     subst e6
     obtain rfl := sj h
     exact ew_ret (res2 Z (.cell Z (own_loadVarA ho37 (Tryd.isAgg34 _) (Tryd.sizeOf34 _) Z)) (.tmp Z)) ⟨_, Z, ⟨_, _, Z, (hw2.mono hC21.back), ((vbool _))⟩, hC21.bx⟩
  ·
   obtain rfl := hbb1.trans hc1
   exact Zu Z (cw_exit (ew_thenX (ew_thenX (ew_blockX (ew_brk (k1, k2, k3, k4, k5, y1) hb5 fun a ha => ⟨M1, (ha.sub ⟨Z, Z, Z, Z, Z, trivial⟩), hl5, hC5, ho5, hm4, ho6, hm5⟩)))))
 ·
  rintro ⟨k6, k7, k8, k9, k10, y2⟩ a w22 hlr2 ⟨M2, hF2, hl22, hC22, ho39, hm6, ho40, hm7⟩
  subst hlr2
  refine ew_at (E := [(2, (.pointer (some p1))), (3, (.pointer (some p2))), (4, (.pointer (some ⟨g1, 0, none⟩))), (6, (.pointer (some ⟨g2, 0, none⟩))), (10, (.int .i64 k6))]) hF2 (Ze (cw_seq (Zr (Zo Z Z Z (ow_loadA (R := (RArr 4 RInt)) Z Z Z ho40 (Tryd.sizeOf106 _) (Tryd.isAgg106 _) fun v31 hv31 => ?_)))))
  replace h := bind_some h
  obtain ⟨x5, hx5, h⟩ := h
  have lz5 := ((((hl1.trans hl2).trans hl3).trans hl4).trans hl22)
  refine Zo Z Z Z (Zk Z Z Tryd.call114 (w_impl_packetOf (hG.mono lz5) hC22.old hv31 hx5) fun v32 w23 hv32 => ?_)
  obtain ⟨hv32, hb10⟩ := hv32
  have hC23 := hC22.no hb10
  have ho41 := ho39.no hb10
  obtain rfl := open_Packet hv32
  refine lw_op0 Z Z (ow_store (X := No) (us := [(.int .i64 x5.From), (.int .i64 x5.To), (.int .i64 x5.Port), (.int .i64 x5.Proto)]) (cs' := #[(.int .i64 x5.From), (.int .i64 x5.To), (.int .i64 x5.Port), (.int .i64 x5.Proto)]) Z Z Z Z ho41 (Tryd.sizeOf34 _) Z Z Z Z hm6 (.inl hg2) Z hC23 fun w24 ho43 hb11 hl24 hC24 => Zo Z Z Z (Za Z Z (Zn (Ze (Zy ?_)))))
  have hw3 : VRep RPacket w24 M2 ({ From := x5.From, To := x5.To, Port := x5.Port, Proto := x5.Proto } : Packet) (.agg #[(.int .i64 x5.From), (.int .i64 x5.To), (.int .i64 x5.Port), (.int .i64 x5.Proto)]) := shut_Packet
  obtain rfl := sj h
  exact ew_ret (res2 Z (.cell Z (own_loadVarA ho43 (Tryd.isAgg34 _) (Tryd.sizeOf34 _) Z)) (.tmp Z)) ⟨_, Z, ⟨_, _, Z, (hw3.mono hC24.back), ((vbool _))⟩, hC24.bx⟩

theorem w_impl_sides_touches {w : World} {M : Nat → Prop} (hG : ARep (RArr 4 RShape) w M shapes ⟨0, 0, none⟩) (hO : ∀ b, M b → b < w.heap.size) {v0p : Value} {a_s : List (List Span)} (h0 : VRep (RArr 4 (RSlice RSpan)) w M a_s v0p) {v1p : Value} {a_other : List (List Span)} (h1 : VRep (RArr 4 (RSlice RSpan)) w M a_other v1p) {r : Bool} (h : F.impl_sides_touches a_s a_other = some r) :
  Calls Tryd.prog 96 [v0p, v1p].toArray w fun e w' => ∃ v, e = .returned v ∧ VRep RBool w' M r v ∧ BX No w w' := by
 have hC : Cx No w M w M := Cx.start hO (fun _ e => e.elim)
 refine walk (N := 14) Tryd.func96 Z Tryd.ntmps96 Z (cw_seq (Zr (Zo Z Z Z (ow_box (R := (RArr 4 (RSlice RSpan))) Z Z h0 hC fun p1 w1 hp1 hb1 hl1 hC1 => Zo Z Z Z (ow_box (R := (RArr 4 (RSlice RSpan))) Z Z (VRep.mono hl1 h1) hC1 fun p2 w2 hp2 hb2 hl2 hC2 => Zo Z Z Z (Za Z Z (Zn (Ze (cw_seq (Zr (Zo Z Z Z (Zl (R := (RArr 4 (RSlice RSpan))) Z Z (ARep.mono hl2 hp1) (Tryd.sizeOf61 _) (Tryd.isAgg61 _) fun v1 hv1 => Zo Z Z Z (Zl (R := (RArr 4 (RSlice RSpan))) Z Z hp2 (Tryd.sizeOf61 _) (Tryd.isAgg61 _) fun v2 hv2 => ?_)))))))))))))
 replace h := bind_some h
 obtain ⟨x1, hx1, h⟩ := h
 refine Zo Z Z Z (Zk Z Z Tryd.call108 (w_impl_sides_firstCommon (hG.mono (hl1.trans hl2)) hC2.old hv1 hv2 hx1) fun v3 w3 hv3 => ?_)
 obtain ⟨⟨v4, v5, rfl, hv4, hv5⟩, hb3⟩ := hv3
 have hC3 := hC2.no hb3
 obtain ⟨bb1, hbb1, rfl⟩ := vbool_ex hv5
 refine Zo Z Z Z (Zm Z Z (Zo Z Z Z (ow_extract Z Z Z (Zo Z Z Z (ow_extract Z Z Z (lw_allocStore (R := RPacket) Z Z Z Z Z Z Z Tryd.zeroValue34 Tryd.sizeOf34 Z Z Z (by simp) hv4 hC3 fun p3 w4 hp3 hb4 hl4 hC4 => Zo Z Z Z (Za Z Z (Zn (Ze (cw_seq (Zr (Zo Z Z Z (Zm Z Z (Zo Z Z Z (Za Z Z (Zn (Ze (Zy ?_))))))))))))))))))
 obtain rfl := sj h
 exact ew_ret (res1 Z (.tmp Z)) ⟨_, Z, ((vbool_of hbb1)), hC4.bx⟩

theorem w_impl_inFirstOnly {w : World} {M : Nat → Prop} (_hG : ARep (RArr 4 RShape) w M shapes ⟨0, 0, none⟩) (hO : ∀ b, M b → b < w.heap.size) {b0 a_inA : Bool} (h0 : b0 = a_inA) {b1 a_inB : Bool} (h1 : b1 = a_inB) {r : Bool} (h : F.impl_inFirstOnly a_inA a_inB = some r) :
  Calls Tryd.prog 79 [(.bool b0), (.bool b1)].toArray w fun e w' => ∃ v, e = .returned v ∧ VRep RBool w' M r v ∧ BX No w w' := by
 have hC : Cx No w M w M := Cx.start hO (fun _ e => e.elim)
 clear _hG
 refine walk (N := 10) Tryd.func79 Z Tryd.ntmps79 Z (cw_seq (Zr (Zo Z Z Z (Za Z Z (Zn (Ze (cw_seq (Zr (Zo Z Z Z (Zm Z Z (Zo Z Z Z (Zm Z Z ?_))))))))))))
 replace h := Zc h
 rcases h with ⟨hc1, h⟩ | ⟨hc1, h⟩
 ·
  obtain rfl := h0.trans hc1
  refine lw_on Z Z Z Z Z Z (Zm Z Z (lw_on Z Z Z Z Z Z (ow_not Z Z (Zo Z Z Z (ow_pickT Z Z Z (Zo Z Z Z (Za Z Z (Zn (Ze (Zy ?_))))))))))
  obtain rfl := sj h
  exact ew_ret (res1 Z (.tmp Z)) ⟨_, Z, ((vbool_of (congrArg (! ·) h1))), hC.bx⟩
 ·
  obtain rfl := h0.trans hc1
  refine lw_off Z Z Z Z Z Z (lw_off Z Z Z Z Z Z (Zo Z Z Z (ow_pickF Z Z Z (Zo Z Z Z (Za Z Z (Zn (Ze (Zy ?_))))))))
  obtain rfl := sj h
  exact ew_ret (res1 Z (.tmp Z)) ⟨_, Z, ((vbool _)), hC.bx⟩

theorem w_impl_sweepSpans__impl_inFirstOnly {w : World} {M : Nat → Prop} (hG : ARep (RArr 4 RShape) w M shapes ⟨0, 0, none⟩) (hO : ∀ b, M b → b < w.heap.size) {v0p : Value} {a_a : List Span} (h0 : VRep (RSlice RSpan) w M a_a v0p) {v1p : Value} {a_b : List Span} (h1 : VRep (RSlice RSpan) w M a_b v1p) {a_top : Int} {r : (List Span)} (h : F.impl_sweepSpans__impl_inFirstOnly a_a a_b a_top = some r) :
  Calls Tryd.prog 78 [v0p, v1p, (.int .i64 a_top), (.func (.func 79) #[] #[])].toArray w fun e w' => ∃ v, e = .returned v ∧ VRep (RSlice RSpan) w' M r v ∧ BX No w w' := by
 obtain ⟨i69, hi69, hz69, hs69, hy69⟩ := info69
 have hC : Cx No w M w M := Cx.start hO (fun _ e => e.elim)
 refine walk (N := 107) Tryd.func78 Z Tryd.ntmps78 Z (cw_seq (Zr (Zo Z Z Z (Za Z Z (Zn (Ze (cw_seq (Zr (Zo Z Z Z (Za Z Z (Zn (Ze (cw_seq (Zr (Zo Z Z Z (Za Z Z (Zo Z Z Z (Za Z Z (Zn (Ze (cw_seq (cw_seq (Zr (Zo Z Z Z (Za Z Z (Zn (Ze ?_)))))))))))))))))))))))))))
 have hr1 : OwnRow RSpan w.heap.size 69 w M ([] : List Span) (.slice none 0 0) := ownrow_nil
 replace h := bind_some h
 obtain ⟨lr1, hlr1, h⟩ := h
 refine cw_for hlr1 (fun s a w' => ∃ (M' : Nat → Prop) (v0c : Value), Fits 107 [(0, v0p), (1, v1p), (2, (.int .i64 a_top)), (3, (.func (.func 79) #[] #[])), (9, v0c), (10, (.int .i64 s.2.1)), (11, (.int .i64 s.2.2.1)), (12, (.int .i64 s.2.2.2))] a ∧ Le w M w' M' ∧ Cx No w M w' M' ∧ OwnRow RSpan w.heap.size 69 w' M' s.1 v0c) ?_ ?_ ?_
 ·
  intro a ha
  exact ⟨M, (.slice none 0 0), ha.sub ⟨Z, Z, Z, Z, Z, Z, Z, Z, trivial⟩, Le.refl _ _, hC, hr1⟩
 ·
  rintro ⟨y1, k1, k2, k3⟩ a w1 sr1 ⟨M1, v1, hF1, hl1, hC1, hw1⟩ hb1 hR1
  refine cw_at (E := [(0, v0p), (1, v1p), (2, (.int .i64 a_top)), (3, (.func (.func 79) #[] #[])), (9, v1), (10, (.int .i64 k1)), (11, (.int .i64 k2)), (12, (.int .i64 k3))]) hF1 (cw_seq (cw_seq (Zr (Zo Z Z Z (Zm Z Z (Zo Z Z Z (Zm Z Z (Zo Z Z Z (ow_leq Z Z Z fun bb1 hbb1 => Zn (Ze ?_))))))))))
  replace hb1 := Zc hb1
  rcases hb1 with ⟨hc1, hb1⟩ | ⟨hc1, hb1⟩
  ·
   obtain rfl := hbb1.trans hc1
   refine Zt Z (cw_skip (Ze (cw_block (cw_seq ?_))))
   replace hb1 := bind_some hb1
   obtain ⟨lr2, hlr2, hb1⟩ := hb1
   refine cw_for hlr2 (fun s a w' => ∃ (M' : Nat → Prop), Fits 107 [(0, v0p), (1, v1p), (2, (.int .i64 a_top)), (3, (.func (.func 79) #[] #[])), (9, v1), (10, (.int .i64 s.1)), (11, (.int .i64 k2)), (12, (.int .i64 k3))] a ∧ Le w1 M1 w' M' ∧ Cx No w M w' M' ∧ OwnRow RSpan w.heap.size 69 w' M' s.2 v1) ?_ ?_ ?_
   ·
    intro a ha
    exact ⟨M1, ha.sub ⟨Z, Z, Z, Z, Z, Z, Z, Z, trivial⟩, Le.refl _ _, hC1, hw1⟩
   ·
    rintro ⟨k4, y2⟩ a w2 sr2 ⟨M2, hF2, hl2, hC2, hw2⟩ hb2 hR2
    refine cw_at (E := [(0, v0p), (1, v1p), (2, (.int .i64 a_top)), (3, (.func (.func 79) #[] #[])), (9, v1), (10, (.int .i64 k4)), (11, (.int .i64 k2)), (12, (.int .i64 k3))]) hF2 (cw_seq (cw_seq (Zr (Zo Z Z Z (Zm Z Z (Zo Z Z Z (Zm Z Z (Zo Z Z Z (ow_len Z Z (VRep.mono (hl1.trans hl2) h0) Tryd.underlying59 Z (Zo Z Z Z (ow_lss Z Z Z fun bb2 hbb2 => Zo Z Z Z (Zm Z Z ?_))))))))))))
    replace hb2 := Zc hb2
    rcases hb2 with ⟨hc2, hb2⟩ | ⟨hc2, hb2⟩
    ·
     obtain rfl := hbb2.trans hc2
     refine lw_on Z Z Z Z Z Z (Zm Z Z (lw_on Z Z Z Z Z Z (Zm Z Z ?_)))
     replace hb2 := bind_some hb2
     obtain ⟨x1, hx1, hb2⟩ := hb2
     refine lw_on Z Z Z Z Z Z (Zx (R := RSpan) Z Z Z (VRep.mono (hl1.trans hl2) h0) Tryd.underlying59 (Tryd.sizeOf69 _) hx1 fun p1 hp1 => lw_on Z Z Z Z Z Z (Zf Z Z Tryd.underlying69 Z (Tryd.sizeOf3 _) (lw_on Z Z Z Z Z Z (Zl (R := RInt) Z Z (hp1.fld fld_Span_Hi) (Tryd.sizeOf3 _) (Tryd.isAgg3 _) fun v7 hv7 => ?_))))
     obtain rfl := Zi hv7
     refine lw_on Z Z Z Z Z Z (Zm Z Z (lw_on Z Z Z Z Z Z (ow_lss Z Z Z fun bb3 hbb3 => Zo Z Z Z (ow_pickT Z Z Z (Zn (Ze ?_))))))
     replace hb2 := Zc hb2
     rcases hb2 with ⟨hc3, hb2⟩ | ⟨hc3, hb2⟩
     ·
      obtain rfl := hbb3.trans hc3
      exact Zt Z (cw_skip (Ze (cw_block (Zr (Zo Z Z Z (Zm Z Z (Zo Z Z Z (ow_add Z Z Z (Zo Z Z Z (Za Z Z (Zn (ew_blockN (ew_nxt ((W (k4 + 1)), y2) hb2 fun a ha => ⟨M2, (ha.sub ⟨Z, Z, Z, Z, Z, Z, Z, Z, trivial⟩), hl2, hC2, hw2⟩)))))))))))))
     ·
      obtain rfl := hbb3.trans hc3
      exact Zu Z (cw_exit (ew_thenX (ew_thenX (ew_blockX (ew_brk (k4, y2) hb2 fun a ha => ⟨M2, (ha.sub ⟨Z, Z, Z, Z, Z, Z, Z, Z, trivial⟩), hl2, hC2, hw2⟩)))))
    ·
     obtain rfl := hbb2.trans hc2
     exact lw_off Z Z Z Z Z Z (lw_off Z Z Z Z Z Z (lw_off Z Z Z Z Z Z (lw_off Z Z Z Z Z Z (lw_off Z Z Z Z Z Z (lw_off Z Z Z Z Z Z (lw_off Z Z Z Z Z Z (Zo Z Z Z (ow_pickF Z Z Z (Zn (Ze (Zu Z (cw_exit (ew_thenX (ew_thenX (ew_blockX (ew_brk (k4, y2) hb2 fun a ha => ⟨M2, (ha.sub ⟨Z, Z, Z, Z, Z, Z, Z, Z, trivial⟩), hl2, hC2, hw2⟩))))))))))))))))
   ·
    rintro ⟨k5, y3⟩ a w3 hlr3 ⟨M3, hF3, hl3, hC3, hw3⟩
    subst hlr3
    refine ew_at (E := [(0, v0p), (1, v1p), (2, (.int .i64 a_top)), (3, (.func (.func 79) #[] #[])), (9, v1), (10, (.int .i64 k5)), (11, (.int .i64 k2)), (12, (.int .i64 k3))]) hF3 (Ze (cw_seq ?_))
    replace hb1 := bind_some hb1
    obtain ⟨lr3, hlr4, hb1⟩ := hb1
    refine cw_for hlr4 (fun s a w' => ∃ (M' : Nat → Prop), Fits 107 [(0, v0p), (1, v1p), (2, (.int .i64 a_top)), (3, (.func (.func 79) #[] #[])), (9, v1), (10, (.int .i64 k5)), (11, (.int .i64 s.1)), (12, (.int .i64 k3))] a ∧ Le w3 M3 w' M' ∧ Cx No w M w' M' ∧ OwnRow RSpan w.heap.size 69 w' M' s.2 v1) ?_ ?_ ?_
    ·
     intro a ha
     exact ⟨M3, ha.sub ⟨Z, Z, Z, Z, Z, Z, Z, Z, trivial⟩, Le.refl _ _, hC3, hw3⟩
    ·
     rintro ⟨k6, y4⟩ a w4 sr3 ⟨M4, hF4, hl4, hC4, hw4⟩ hb3 hR3
     refine cw_at (E := [(0, v0p), (1, v1p), (2, (.int .i64 a_top)), (3, (.func (.func 79) #[] #[])), (9, v1), (10, (.int .i64 k5)), (11, (.int .i64 k6)), (12, (.int .i64 k3))]) hF4 (cw_seq (cw_seq (Zr (Zo Z Z Z (Zm Z Z (Zo Z Z Z (Zm Z Z ?_)))))))
     have lz1 := ((hl1.trans hl3).trans hl4)
     refine Zo Z Z Z (ow_len Z Z (VRep.mono lz1 h1) Tryd.underlying59 Z (Zo Z Z Z (ow_lss Z Z Z fun bb4 hbb4 => Zo Z Z Z (Zm Z Z ?_))))
     replace hb3 := Zc hb3
     rcases hb3 with ⟨hc4, hb3⟩ | ⟨hc4, hb3⟩
     ·
      obtain rfl := hbb4.trans hc4
      refine lw_on Z Z Z Z Z Z (Zm Z Z (lw_on Z Z Z Z Z Z (Zm Z Z ?_)))
      replace hb3 := bind_some hb3
      obtain ⟨x2, hx2, hb3⟩ := hb3
      refine lw_on Z Z Z Z Z Z (Zx (R := RSpan) Z Z Z (VRep.mono lz1 h1) Tryd.underlying59 (Tryd.sizeOf69 _) hx2 fun p2 hp2 => lw_on Z Z Z Z Z Z (Zf Z Z Tryd.underlying69 Z (Tryd.sizeOf3 _) (lw_on Z Z Z Z Z Z (Zl (R := RInt) Z Z (hp2.fld fld_Span_Hi) (Tryd.sizeOf3 _) (Tryd.isAgg3 _) fun v12 hv12 => ?_))))
      obtain rfl := Zi hv12
      refine lw_on Z Z Z Z Z Z (Zm Z Z (lw_on Z Z Z Z Z Z (ow_lss Z Z Z fun bb5 hbb5 => Zo Z Z Z (ow_pickT Z Z Z (Zn (Ze ?_))))))
      replace hb3 := Zc hb3
      rcases hb3 with ⟨hc5, hb3⟩ | ⟨hc5, hb3⟩
      ·
       obtain rfl := hbb5.trans hc5
       exact Zt Z (cw_skip (Ze (cw_block (Zr (Zo Z Z Z (Zm Z Z (Zo Z Z Z (ow_add Z Z Z (Zo Z Z Z (Za Z Z (Zn (ew_blockN (ew_nxt ((W (k6 + 1)), y4) hb3 fun a ha => ⟨M4, (ha.sub ⟨Z, Z, Z, Z, Z, Z, Z, Z, trivial⟩), hl4, hC4, hw4⟩)))))))))))))
      ·
       obtain rfl := hbb5.trans hc5
       exact Zu Z (cw_exit (ew_thenX (ew_thenX (ew_blockX (ew_brk (k6, y4) hb3 fun a ha => ⟨M4, (ha.sub ⟨Z, Z, Z, Z, Z, Z, Z, Z, trivial⟩), hl4, hC4, hw4⟩)))))
     ·
      obtain rfl := hbb4.trans hc4
      exact lw_off Z Z Z Z Z Z (lw_off Z Z Z Z Z Z (lw_off Z Z Z Z Z Z (lw_off Z Z Z Z Z Z (lw_off Z Z Z Z Z Z (lw_off Z Z Z Z Z Z (lw_off Z Z Z Z Z Z (Zo Z Z Z (ow_pickF Z Z Z (Zn (Ze (Zu Z (cw_exit (ew_thenX (ew_thenX (ew_blockX (ew_brk (k6, y4) hb3 fun a ha => ⟨M4, (ha.sub ⟨Z, Z, Z, Z, Z, Z, Z, Z, trivial⟩), hl4, hC4, hw4⟩))))))))))))))))
    ·
     rintro ⟨k7, y5⟩ a w5 hlr5 ⟨M5, hF5, hl5, hC5, hw5⟩
     subst hlr5
     refine ew_at (E := [(0, v0p), (1, v1p), (2, (.int .i64 a_top)), (3, (.func (.func 79) #[] #[])), (9, v1), (10, (.int .i64 k5)), (11, (.int .i64 k7)), (12, (.int .i64 k3))]) hF5 (Ze (cw_seq (Zr (Zo Z Z Z (Zm Z Z (Zo Z Z Z (Zm Z Z ?_)))))))
     replace hb1 := bind_some hb1
     obtain ⟨y6, hy6, hb1⟩ := hb1
     have lz2 := ((hl1.trans hl3).trans hl5)
     refine Zo Z Z Z (ow_sliceFrom (R := RSpan) Z Z Z (VRep.mono lz2 h0) Tryd.underlying59 (Tryd.sizeOf69 _) (dropF_some hy6).2 fun v15 hv15 => ?_)
     rw [← (dropF_some hy6).1] at hv15
     refine Zo Z Z Z (Zm Z Z (Zo Z Z Z (Zm Z Z ?_)))
     replace hb1 := bind_some hb1
     obtain ⟨x3, hx3, hb1⟩ := hb1
     refine Zo Z Z Z (Zk Z Z Tryd.call98 (w_impl_stretch (hG.mono lz2) hC5.old hv15 hx3) fun v16 w6 hv16 => ?_)
     obtain ⟨⟨v17, v18, rfl, hv17, hv18⟩, hb4⟩ := hv16
     have hl6 := Le.no M5 hb4
     have hC6 := hC5.no hb4
     have hr2 := hw5.no hb4
     obtain ⟨bb6, hbb6, rfl⟩ := vbool_ex hv17
     obtain rfl := Zi hv18
     refine Zo Z Z Z (Zm Z Z (Zo Z Z Z (ow_extract Z Z Z (Zo Z Z Z (ow_extract Z Z Z (Zo Z Z Z (Za Z Z (Zo Z Z Z (Za Z Z (Zn (Ze (cw_seq (Zr (Zo Z Z Z (Zm Z Z (Zo Z Z Z (Zm Z Z ?_)))))))))))))))))
     replace hb1 := bind_some hb1
     obtain ⟨y7, hy7, hb1⟩ := hb1
     refine Zo Z Z Z (ow_sliceFrom (R := RSpan) Z Z Z (VRep.mono (lz2.trans hl6) h1) Tryd.underlying59 (Tryd.sizeOf69 _) (dropF_some hy7).2 fun v19 hv19 => ?_)
     rw [← (dropF_some hy7).1] at hv19
     refine Zo Z Z Z (Zm Z Z (Zo Z Z Z (Zm Z Z ?_)))
     replace hb1 := bind_some hb1
     obtain ⟨x4, hx4, hb1⟩ := hb1
     refine Zo Z Z Z (Zk Z Z Tryd.call98 (w_impl_stretch (hG.mono (lz2.trans hl6)) hC6.old hv19 hx4) fun v20 w7 hv20 => ?_)
     obtain ⟨⟨v21, v22, rfl, hv21, hv22⟩, hb5⟩ := hv20
     have hl7 := Le.no M5 hb5
     have hC7 := hC6.no hb5
     have hr3 := hr2.no hb5
     obtain ⟨bb7, hbb7, rfl⟩ := vbool_ex hv21
     obtain rfl := Zi hv22
     refine Zo Z Z Z (Zm Z Z (Zo Z Z Z (ow_extract Z Z Z (Zo Z Z Z (ow_extract Z Z Z (Zo Z Z Z (Za Z Z (Zo Z Z Z (Za Z Z (Zn (Ze (cw_seq (Zr (Zo Z Z Z (Zm Z Z (Zo Z Z Z (Zm Z Z (Zo Z Z Z (ow_min Z Z Z (Zo Z Z Z (Za Z Z (Zn (Ze (cw_seq (cw_seq (Zr (Zo Z Z Z (Zm Z Z (Zo Z Z Z (Zm Z Z (Zo Z Z Z (Zm Z Z ?_))))))))))))))))))))))))))))))))
     replace hb1 := bind_some hb1
     obtain ⟨x5, hx5, hb1⟩ := hb1
     have lz3 := ((lz2.trans hl6).trans hl7)
     refine Zo Z Z Z (ow_callv Z Z Z Tryd.call79 (w_impl_inFirstOnly (hG.mono lz3) hC7.old hbb6 hbb7 hx5) fun v23 w8 hv23 => ?_)
     obtain ⟨hv23, hb6⟩ := hv23
     have hl8 := Le.no M5 hb6
     have hC8 := hC7.no hb6
     have hr4 := hr3.no hb6
     obtain rfl := vbool_eq hv23
     refine Zn (Ze ?_)
     replace hb1 := Zc hb1
     rcases hb1 with ⟨hc6, hb1⟩ | ⟨hc6, hb1⟩
     ·
      subst hc6
      refine Zt Z (cw_seq (Zr (Zo Z Z Z (Zm Z Z (Zo Z Z Z (ow_lenOwn Z Z hr4 Tryd.underlying59 (Zo Z Z Z (Za Z Z (Zn (Ze (cw_seq (Zr (Zo Z Z Z (Zm Z Z (Zo Z Z Z (ow_gtr Z Z Z fun bb8 hbb8 => Zo Z Z Z (Zm Z Z ?_)))))))))))))))))
      replace hb1 := Zc hb1
      rcases hb1 with ⟨hc7, hb1⟩ | ⟨hc7, hb1⟩
      ·
       obtain rfl := hbb8.trans hc7
       refine lw_on Z Z Z Z Z Z (Zm Z Z (lw_on Z Z Z Z Z Z (Zm Z Z (lw_on Z Z Z Z Z Z (ow_sub Z Z Z ?_)))))
       replace hb1 := bind_some hb1
       obtain ⟨x6, hx6, hb1⟩ := hb1
       refine lw_on Z Z Z Z Z Z (ow_indexRow (R := RSpan) Z Z Z hr4 Tryd.underlying59 (Tryd.sizeOf69 _) hx6 (lw_on Z Z Z Z Z Z (Zf Z Z Tryd.underlying69 Z (Tryd.sizeOf3 _) (lw_on Z Z Z Z Z Z (ow_loadElRow (R := RSpan) (S := RInt) Z Z Z hr4 (orow_blk hr4 hx6) hx6 fld_Span_Hi (Tryd.sizeOf3 _) (Tryd.isAgg3 _) fun v24 hv24 => ?_)))))
       obtain rfl := Zi hv24
       refine lw_on Z Z Z Z Z Z (ow_add Z Z Z (lw_on Z Z Z Z Z Z (Zm Z Z (lw_on Z Z Z Z Z Z (ow_eqlI Z Z Z fun bb9 hbb9 => Zo Z Z Z (ow_pickT Z Z Z (Zn (Ze ?_))))))))
       replace hb1 := Zc hb1
       rcases hb1 with ⟨hc8, hb1⟩ | ⟨hc8, hb1⟩
       ·
        obtain rfl := hbb9.trans hc8
        refine Zt Z (Zr (Zo Z Z Z (Zm Z Z (Zo Z Z Z (Zm Z Z (Zo Z Z Z (ow_sub Z Z Z (Zo Z Z Z (Zm Z Z (Zo Z Z Z (ow_indexRow (R := RSpan) Z Z Z hr4 Tryd.underlying59 (Tryd.sizeOf69 _) hx6 (Zo Z Z Z (Zf Z Z Tryd.underlying69 Z (Tryd.sizeOf3 _) (lw_op0 Z Z (ow_storeElRow (X := No) (R := RSpan) (S := RInt) Z Z Z Z hr4 (orow_blk hr4 hx6) hx6 set_Span_Hi (Tryd.sizeOf3 _) (vint _) (Nat.le_refl _) hC8 fun w9 ho1 hb7 hl9 hC9 => Zn (Ze (Zr (Zo Z Z Z (Zm Z Z (Zo Z Z Z (ow_add Z Z Z (Zo Z Z Z (Za Z Z (Zn (ew_blockN ?_)))))))))))))))))))))))))
        have lz4 := ((lz3.trans hl8).trans hl9)
        exact ew_nxt ((List.set y5 ((W ((y5.length : Int) - 1)) : Int).toNat { x6 with Hi := (imin x3.2 x4.2) }), k5, k7, (W ((imin x3.2 x4.2) + 1))) hb1 fun a ha => ⟨M5, v1, (ha.sub ⟨Z, Z, Z, Z, Z, Z, Z, Z, trivial⟩), lz4, hC9, ho1⟩
       ·
        obtain rfl := hbb9.trans hc8
        refine Zu Z (Zr (Zo Z Z Z (Zm Z Z (Zo Z Z Z (Zm Z Z (Zo Z Z Z (Zm Z Z (Zo Z Z Z (ow_build (v := .agg #[(.int .i64 k3), (.int .i64 (imin x3.2 x4.2))]) Z Z (by kernel_rfl) ?_)))))))))
        have hw6 : VRep RSpan w8 M5 ({ Lo := k3, Hi := (imin x3.2 x4.2) } : Span) (.agg #[(.int .i64 k3), (.int .i64 (imin x3.2 x4.2))]) := shut_Span
        refine Zo Z Z Z (ow_buildSlice (R := RSpan) (xs := [({ Lo := k3, Hi := (imin x3.2 x4.2) } : Span)]) (cs := #[(.int .i64 k3), (.int .i64 (imin x3.2 x4.2))]) (e := 69) Z Z (by kernel_rfl) Z Z ⟨_, _, Z, hw6.cells, Z⟩ hC8 fun p3 w10 hw7 hb8 hl10 hC10 => ?_)
        have hr5 := hr4.no hb8
        replace hb1 := bind_some hb1
        obtain ⟨z1, hz1, hb1⟩ := hb1
        refine Zo Z Z Z (ow_append (R := RSpan) Z Z Z Z Tryd.underlying59 hi69 hz69 hs69 hy69 Z Z Z Z hr5 hw7 hz1 hC10 fun v25 w11 M6 hr6 hb9 hl11 hC11 hM1 hat1 => Zo Z Z Z (Za Z Z (Zn (Ze (Zr (Zo Z Z Z (Zm Z Z (Zo Z Z Z (ow_add Z Z Z (Zo Z Z Z (Za Z Z (Zn (ew_blockN ?_)))))))))))))
        have lz5 := (((lz3.trans hl8).trans hl10).trans hl11)
        exact ew_nxt (z1, k5, k7, (W ((imin x3.2 x4.2) + 1))) hb1 fun a ha => ⟨M6, v25, (ha.sub ⟨Z, Z, Z, Z, Z, Z, Z, Z, trivial⟩), lz5, hC11, hr6⟩
      ·
       obtain rfl := hbb8.trans hc7
       refine lw_off Z Z Z Z Z Z (lw_off Z Z Z Z Z Z (lw_off Z Z Z Z Z Z (lw_off Z Z Z Z Z Z (lw_off Z Z Z Z Z Z (lw_off Z Z Z Z Z Z (lw_off Z Z Z Z Z Z (lw_off Z Z Z Z Z Z (lw_off Z Z Z Z Z Z (Zo Z Z Z (ow_pickF Z Z Z (Zn (Ze (Zu Z (Zr (Zo Z Z Z (Zm Z Z (Zo Z Z Z (Zm Z Z (Zo Z Z Z (Zm Z Z (Zo Z Z Z (ow_build (v := .agg #[(.int .i64 k3), (.int .i64 (imin x3.2 x4.2))]) Z Z (by kernel_rfl) ?_))))))))))))))))))))))
       have hw8 : VRep RSpan w8 M5 ({ Lo := k3, Hi := (imin x3.2 x4.2) } : Span) (.agg #[(.int .i64 k3), (.int .i64 (imin x3.2 x4.2))]) := shut_Span
       refine Zo Z Z Z (ow_buildSlice (R := RSpan) (xs := [({ Lo := k3, Hi := (imin x3.2 x4.2) } : Span)]) (cs := #[(.int .i64 k3), (.int .i64 (imin x3.2 x4.2))]) (e := 69) Z Z (by kernel_rfl) Z Z ⟨_, _, Z, hw8.cells, Z⟩ hC8 fun p4 w12 hw9 hb10 hl12 hC12 => ?_)
       have hr7 := hr4.no hb10
       replace hb1 := bind_some hb1
       obtain ⟨z2, hz2, hb1⟩ := hb1
       refine Zo Z Z Z (ow_append (R := RSpan) Z Z Z Z Tryd.underlying59 hi69 hz69 hs69 hy69 Z Z Z Z hr7 hw9 hz2 hC12 fun v26 w13 M7 hr8 hb11 hl13 hC13 hM2 hat2 => Zo Z Z Z (Za Z Z (Zn (Ze (Zr (Zo Z Z Z (Zm Z Z (Zo Z Z Z (ow_add Z Z Z (Zo Z Z Z (Za Z Z (Zn (ew_blockN ?_)))))))))))))
       have lz6 := (((lz3.trans hl8).trans hl12).trans hl13)
       exact ew_nxt (z2, k5, k7, (W ((imin x3.2 x4.2) + 1))) hb1 fun a ha => ⟨M7, v26, (ha.sub ⟨Z, Z, Z, Z, Z, Z, Z, Z, trivial⟩), lz6, hC13, hr8⟩
     ·
      subst hc6
      exact Zu Z (cw_skip (Ze (Zr (Zo Z Z Z (Zm Z Z (Zo Z Z Z (ow_add Z Z Z (Zo Z Z Z (Za Z Z (Zn (ew_blockN (ew_nxt (y5, k5, k7, (W ((imin x3.2 x4.2) + 1))) hb1 fun a ha => ⟨M5, v1, (ha.sub ⟨Z, Z, Z, Z, Z, Z, Z, Z, trivial⟩), (lz3.trans hl8), hC8, hr4⟩))))))))))))
  ·
   obtain rfl := hbb1.trans hc1
   exact Zu Z (cw_exit (ew_thenX (ew_thenX (ew_blockX (ew_brk (y1, k1, k2, k3) hb1 fun a ha => ⟨M1, v1, (ha.sub ⟨Z, Z, Z, Z, Z, Z, Z, Z, trivial⟩), hl1, hC1, hw1⟩)))))
 ·
  rintro ⟨y8, k8, k9, k10⟩ a w14 hlr6 ⟨M8, v27, hF6, hl14, hC14, hw10⟩
  subst hlr6
  refine ew_at (E := [(0, v0p), (1, v1p), (2, (.int .i64 a_top)), (3, (.func (.func 79) #[] #[])), (9, v27), (10, (.int .i64 k8)), (11, (.int .i64 k9)), (12, (.int .i64 k10))]) hF6 (Ze (cw_seq (Zr (Zo Z Z Z (Zm Z Z (Zo Z Z Z (Za Z Z (Zn (Ze (Zy ?_))))))))))
  obtain rfl := sj h
  exact ew_ret (res1 Z (.tmp Z)) ⟨_, Z, (hw10.freezeBack hC14 hO), hC14.bx⟩

theorem w_impl_lessSpans {w : World} {M : Nat → Prop} (hG : ARep (RArr 4 RShape) w M shapes ⟨0, 0, none⟩) (hO : ∀ b, M b → b < w.heap.size) {v0p : Value} {a_a : List Span} (h0 : VRep (RSlice RSpan) w M a_a v0p) {v1p : Value} {a_b : List Span} (h1 : VRep (RSlice RSpan) w M a_b v1p) {a_top : Int} {r : (List Span) × Bool} (h : F.impl_lessSpans a_a a_b a_top = some r) :
  Calls Tryd.prog 97 [v0p, v1p, (.int .i64 a_top)].toArray w fun e w' => ∃ v, e = .returned v ∧ (∃ u0 u1, v = .tuple #[u0, u1] ∧ VRep (RSlice RSpan) w' M r.1 u0 ∧ VRep RBool w' M r.2 u1) ∧ BX No w w' := by
 have hC : Cx No w M w M := Cx.start hO (fun _ e => e.elim)
 refine walk (N := 15) Tryd.func97 Z Tryd.ntmps97 Z (cw_seq (Zr (Zo Z Z Z (Za Z Z (Zo Z Z Z (Za Z Z (Zn (Ze (cw_seq (Zr (Zo Z Z Z (Zm Z Z (Zo Z Z Z (Zm Z Z (Zo Z Z Z (Zm Z Z ?_))))))))))))))))
 replace h := bind_some h
 obtain ⟨x1, hx1, h⟩ := h
 refine Zo Z Z Z (Zk Z Z Tryd.call78 (w_impl_sweepSpans__impl_inFirstOnly hG hC.old h0 h1 hx1) fun v1 w1 hv1 => ?_)
 obtain ⟨hv1, hb1⟩ := hv1
 have hl1 := Le.no M hb1
 have hC1 := hC.no hb1
 replace h := bind_some h
 obtain ⟨x2, hx2, h⟩ := h
 refine Zo Z Z Z (Zk Z Z Tryd.call99 (w_impl_limitSpans (hG.mono hl1) hC1.old hv1 hx2) fun v2 w2 hv2 => ?_)
 obtain ⟨⟨v3, v4, rfl, hv3, hv4⟩, hb2⟩ := hv2
 have hC2 := hC1.no hb2
 obtain ⟨bb1, hbb1, rfl⟩ := vbool_ex hv4
 refine Zo Z Z Z (ow_extract Z Z Z (Zo Z Z Z (ow_extract Z Z Z (Zo Z Z Z (Za Z Z (Zo Z Z Z (Za Z Z (Zn (Ze (Zy ?_))))))))))
 obtain rfl := sj h
 exact ew_ret (res2 Z (.tmp Z) (.tmp Z)) ⟨_, Z, ⟨_, _, Z, (VRep.mono hC2.back hv3), ((vbool_of hbb1))⟩, hC2.bx⟩

theorem w_impl_sides_pieces_1 {w : World} {M : Nat → Prop} (hG : ARep (RArr 4 RShape) w M shapes ⟨0, 0, none⟩) (hO : ∀ b, M b → b < w.heap.size) {l : Nat} {J : List (List (List Span)) → (Nat → Prop) → (Nat → Prop) → World → Prop} {Jx : World → Prop} {K : Nat → Prop} (hY : Yd Tryd.prog l (RArr 4 (RSlice RSpan)) J Jx) (hJ : J [] K M w) {p1p : Addr} {a_s : List (List Span)} (hq1p : ARep (RArr 4 (RSlice RSpan)) w M a_s p1p) {p2p : Addr} {a_other : List (List Span)} (hq2p : ARep (RArr 4 (RSlice RSpan)) w M a_other p2p) {r : Bool × List (List (List Span))} (h : F.impl_sides_pieces_1 a_s a_other = some r) :
  Calls Tryd.prog 95 [(.func (.yield l) #[] #[]), (.pointer (some p1p)), (.pointer (some p2p))].toArray w fun e w' => ∃ v, e = .returned v ∧ v = .tuple #[] ∧ YEnd J Jx K w M r w' := by
 have hC : Cx K w M w M := Cx.start hO (hY.mem hJ)
 refine walk (N := 82) Tryd.func95 Z Tryd.ntmps95 Z (cw_seq (cw_seq (Zr (Zo Z Z Z (Zl (R := (RArr 4 (RSlice RSpan))) Z Z hq1p (Tryd.sizeOf61 _) (Tryd.isAgg61 _) fun v1 hv1 => ?_)))))
 replace h := bind_some h
 obtain ⟨x1, hx1, h⟩ := h
 refine Zo Z Z Z (Zk Z Z Tryd.call43 (w_impl_sides_empty hG hC.old hv1 hx1) fun v2 w1 hv2 => ?_)
 obtain ⟨hv2, hb1⟩ := hv2
 have hl1 := Le.no M hb1
 have hC1 := hC.no hb1
 have hJ1 := hY.go hJ hb1 (fun _ e => e.elim) (fun _ h => h) hl1
 obtain rfl := vbool_eq hv2
 refine Zn (Ze ?_)
 replace h := Zc h
 rcases h with ⟨hc1, h⟩ | ⟨hc1, h⟩
 ·
  subst hc1
  refine Zt Z (Zy (Zh ?_))
  obtain rfl := sj h
  exact ew_ret (res0 Z) ⟨_, Z, Z, .inr ⟨Z, _, _, hJ1, hC1⟩⟩
 ·
  subst hc1
  refine Zu Z (cw_skip (Ze (cw_seq (cw_seq (Zr (Zo Z Z Z (Zl (R := (RArr 4 (RSlice RSpan))) Z Z (ARep.mono hl1 hq1p) (Tryd.sizeOf61 _) (Tryd.isAgg61 _) fun v3 hv3 => Zo Z Z Z (Zl (R := (RArr 4 (RSlice RSpan))) Z Z (ARep.mono hl1 hq2p) (Tryd.sizeOf61 _) (Tryd.isAgg61 _) fun v4 hv4 => ?_))))))))
  replace h := bind_some h
  obtain ⟨x2, hx2, h⟩ := h
  refine Zo Z Z Z (Zk Z Z Tryd.call96 (w_impl_sides_touches (hG.mono hl1) hC1.old hv3 hv4 hx2) fun v5 w2 hv5 => ?_)
  obtain ⟨hv5, hb2⟩ := hv5
  have hl2 := Le.no M hb2
  have hC2 := hC1.no hb2
  have hJ2 := hY.go hJ1 hb2 (fun _ e => e.elim) (fun _ h => h) hl2
  obtain rfl := vbool_eq hv5
  refine Zo Z Z Z (ow_not Z Z (Zn (Ze ?_)))
  replace h := Zc h
  rcases h with ⟨hc2, h⟩ | ⟨hc2, h⟩
  ·
   subst hc2
   refine Zu Z (cw_skip (Ze (cw_seq (Zr (Zo Z Z Z (Zl (R := (RArr 4 (RSlice RSpan))) Z Z (ARep.mono (hl1.trans hl2) hq1p) (Tryd.sizeOf61 _) (Tryd.isAgg61 _) fun v6 hv6 => Zo Z Z Z (ow_alloc Z (Tryd.zeroValue61 _) hC2 fun g1 w3 hg1 hg2 ho1 hb3 hl3 hC3 => ?_)))))))
   have hk1 := hY.free hJ2 hg1
   have hJ3 := hY.go hJ2 hb3 (fun _ e => e.elim) (fun _ h => .inr h) hl3
   have hm1 : (Add g1 M) g1 := .inl Z
   have ho2 : OwnA (RArr 4 (RSlice RSpan)) w3 (Add g1 M) g1 61 [([] : List Span), ([] : List Span), ([] : List Span), ([] : List Span)] := OwnA.of ho1 ⟨Z, ⟨_, _, Z, (vslice_nil (R := RSpan) (w := w3) (M := (Add g1 M))).cells, _, _, Z, (vslice_nil (R := RSpan) (w := w3) (M := (Add g1 M))).cells, _, _, Z, (vslice_nil (R := RSpan) (w := w3) (M := (Add g1 M))).cells, _, _, Z, (vslice_nil (R := RSpan) (w := w3) (M := (Add g1 M))).cells, Z⟩⟩
   obtain ⟨cs1, h1, h2⟩ := ho2.own
   refine lw_op0 Z Z (ow_storeA (X := K) (R := (RArr 4 (RSlice RSpan))) Z Z Z Z h1 h2 (Tryd.sizeOf61 _) (VRep.mono hl3 hv6) hm1 (.inl hg2) hC3 fun w4 ho3 hb4 hl4 hC4 => ?_)
   have hJ4 := hY.go hJ3 hb4 (fun b e h => hk1 ((show b = g1 from e) ▸ h)) (fun _ h => h) hl4
   refine Zo Z Z Z (Za Z Z (Zn (Ze (cw_seq (Zr (Zo Z Z Z (Zm Z Z (Zn (Ze ?_)))))))))
   replace h := bind_some h
   obtain ⟨lr1, hlr1, h⟩ := h
   refine cw_for hlr1 (fun s a w' => ∃ (M' : Nat → Prop) (K' : Nat → Prop), Fits 82 [(0, (.func (.yield l) #[] #[])), (1, (.pointer (some p1p))), (2, (.pointer (some p2p))), (4, (.pointer (some ⟨g1, 0, none⟩))), (5, (.bool s.1)), (22, (.int .i64 s.2.1))] a ∧ Le w4 (Add g1 M) w' M' ∧ Cx K w M w' M' ∧ OwnA (RArr 4 (RSlice RSpan)) w' M' g1 61 s.2.2.1 ∧ M' g1 ∧ J s.2.2.2 K' M' w' ∧ (∀ b, K' b → w.heap.size ≤ b ∨ K b) ∧ ¬ K' g1) ?_ ?_ ?_
   ·
    intro a ha
    exact ⟨(Add g1 M), K, ha.sub ⟨Z, Z, Z, Z, Z, Z, trivial⟩, Le.refl _ _, hC4, ho3, hm1, hJ4, (fun _ h => .inr h), hk1⟩
   ·
    rintro ⟨y1, k1, y2, y3⟩ a w5 sr1 ⟨M1, K1, hF1, hl5, hC5, ho4, hm2, hJ5, hge1, hk2⟩ hb5 hR1
    refine cw_at (E := [(0, (.func (.yield l) #[] #[])), (1, (.pointer (some p1p))), (2, (.pointer (some p2p))), (4, (.pointer (some ⟨g1, 0, none⟩))), (5, (.bool y1)), (22, (.int .i64 k1))]) hF1 (cw_seq (Zr (Zo Z Z Z (ow_lss Z Z Z fun bb1 hbb1 => Zn (Ze (cw_seq ?_))))))
    replace hb5 := Zc hb5
    rcases hb5 with ⟨hc3, hb5⟩ | ⟨hc3, hb5⟩
    ·
     obtain rfl := hbb1.trans hc3
     refine Zt Z (cw_skip (Ze (cw_seq (cw_block (cw_seq (Zr (Zo Z Z Z (Zm Z Z (Zo Z Z Z (Za Z Z (Zn (Ze (cw_seq ?_)))))))))))))
     replace hb5 := bind_some hb5
     obtain ⟨x3, hx3, hb5⟩ := hb5
     replace hb5 := bind_some hb5
     obtain ⟨x4, hx4, hb5⟩ := hb5
     replace hb5 := bind_some hb5
     obtain ⟨x5, hx5, hb5⟩ := hb5
     replace hb5 := bind_some hb5
     obtain ⟨x6, hx6, hb5⟩ := hb5
     have lz1 := ((((hl1.trans hl2).trans hl3).trans hl4).trans hl5)
     refine cw_sub (E' := [(0, (.func (.yield l) #[] #[])), (1, (.pointer (some p1p))), (2, (.pointer (some p2p))), (4, (.pointer (some ⟨g1, 0, none⟩))), (5, (.bool y1)), (6, (.int .i64 k1)), (22, (.int .i64 k1))]) ⟨Z, Z, Z, Z, Z, Z, Z, trivial⟩ (cw_drawQ 13 [PEq (.int .i64 k1), PA (RSlice RSpan) M1 x3, PV (RSlice RSpan) M1 x3, PEq (.int .i64 k1), PA (RSlice RSpan) M1 x4, PV (RSlice RSpan) M1 x4, PEq (.int .i64 k1), PEq (.int .i64 x5), PT2 (PV (RSlice RSpan) M1 x6.1) (PEq (.bool x6.2)), PT2 (PV (RSlice RSpan) M1 x6.1) (PEq (.bool x6.2)), PV (RSlice RSpan) M1 x6.1, PEq (.bool x6.2), PV (RSlice RSpan) M1 x6.1] (by kernel_rfl) Z (by kernel_rfl) ⟨Zq, PA.mono _ _ _, PV.mono _ _ _, Zq, PA.mono _ _ _, PV.mono _ _ _, Zq, Zq, (PT2.mono (PV.mono _ _ _) (Zq)), (PT2.mono (PV.mono _ _ _) (Zq)), PV.mono _ _ _, Zq, PV.mono _ _ _, trivial⟩ ⟨?_, ?_, ?_, ?_, ?_, ?_, ?_, ?_, ?_, ?_, ?_, ?_, ?_, trivial⟩ ?_)
     ·
      intro w8 D hS1 hd1
      exact Zs (E' := [(6, (.int .i64 k1))]) ⟨Z, trivial⟩ (Zp Z (Zm Z Z Zb))
     ·
      intro w9 D hS2 hd2
      have hl9 := Le.no M1 hS2
      exact Zs (E' := [(26, (.int .i64 k1)), (1, (.pointer (some p1p)))]) ⟨(dpE hd2 0 Z Z), Z, trivial⟩ (Zp Z (ow_indexArr (R := (RSlice RSpan)) Z Z Z (ARep.mono (lz1.trans hl9) hq1p) Tryd.underlying61 (Tryd.sizeOf59 _) hx3 fun p3 hp3 => ⟨BX.refl _ _, ⟨_, Z, hp3⟩⟩))
     ·
      intro w10 D hS3 hd3
      have d2 : PA (RSlice RSpan) M1 x3 (D 1) w10 := dpA hd3 1 Z
      obtain ⟨p4, e1, ha1⟩ := d2
      exact Zs (E' := [(27, (.pointer (some p4)))]) ⟨(congrArg some e1), trivial⟩ (Zp Z (Zl (R := (RSlice RSpan)) Z Z ha1 (Tryd.sizeOf59 _) (Tryd.isAgg59 _) fun v17 hv17 => ⟨BX.refl _ _, hv17⟩))
     ·
      intro w11 D hS4 hd4
      exact Zs (E' := [(6, (.int .i64 k1))]) ⟨Z, trivial⟩ (Zp Z (Zm Z Z Zb))
     ·
      intro w12 D hS5 hd5
      have hl12 := Le.no M1 hS5
      exact Zs (E' := [(29, (.int .i64 k1)), (2, (.pointer (some p2p)))]) ⟨(dpE hd5 3 Z Z), Z, trivial⟩ (Zp Z (ow_indexArr (R := (RSlice RSpan)) Z Z Z (ARep.mono (lz1.trans hl12) hq2p) Tryd.underlying61 (Tryd.sizeOf59 _) hx4 fun p5 hp5 => ⟨BX.refl _ _, ⟨_, Z, hp5⟩⟩))
     ·
      intro w13 D hS6 hd6
      have d4 : PA (RSlice RSpan) M1 x4 (D 4) w13 := dpA hd6 4 Z
      obtain ⟨p6, e2, ha2⟩ := d4
      exact Zs (E' := [(30, (.pointer (some p6)))]) ⟨(congrArg some e2), trivial⟩ (Zp Z (Zl (R := (RSlice RSpan)) Z Z ha2 (Tryd.sizeOf59 _) (Tryd.isAgg59 _) fun v18 hv18 => ⟨BX.refl _ _, hv18⟩))
     ·
      intro w14 D hS7 hd7
      exact Zs (E' := [(6, (.int .i64 k1))]) ⟨Z, trivial⟩ (Zp Z (Zm Z Z Zb))
     ·
      intro w15 D hS8 hd8
      have hl15 := Le.no M1 hS8
      have hC15 := hC5.no hS8
      refine Zs (E' := [(32, (.int .i64 k1))]) ⟨(dpE hd8 6 Z Z), trivial⟩ (Zp Z (Zk Z Z Tryd.call68 (w_impl_FieldTop (hG.mono (lz1.trans hl15)) hC15.old hx5) fun v19 w16 hv19 => ?_))
      obtain ⟨hv19, hb8⟩ := hv19
      obtain rfl := Zi hv19
      exact ⟨hb8, Z⟩
     ·
      intro w17 D hS9 hd9
      have hl17 := Le.no M1 hS9
      have hC17 := hC5.no hS9
      have d6 : PV (RSlice RSpan) M1 x3 (D 2) w17 := dpA hd9 2 Z
      have d7 : PV (RSlice RSpan) M1 x4 (D 5) w17 := dpA hd9 5 Z
      generalize hq1 : (D 2) = v20 at d6
      generalize hq2 : (D 5) = v21 at d7
      refine Zs (E' := [(28, v20), (31, v21), (33, (.int .i64 x5))]) ⟨(congrArg some hq1), (congrArg some hq2), (dpE hd9 7 Z Z), trivial⟩ (Zp Z (Zk Z Z Tryd.call97 (w_impl_lessSpans (hG.mono (lz1.trans hl17)) hC17.old d6 d7 hx6) fun v22 w18 hv22 => ?_))
      obtain ⟨⟨v23, v24, rfl, hv23, hv24⟩, hb9⟩ := hv22
      obtain ⟨bb3, hbb3, rfl⟩ := vbool_ex hv24
      exact ⟨hb9, ⟨_, _, Z, hv23, (congrArg Value.bool hbb3)⟩⟩
     ·
      intro w19 D hS10 hd10
      have d10 : PT2 (PV (RSlice RSpan) M1 x6.1) (PEq (.bool x6.2)) (D 8) w19 := dpA hd10 8 Z
      obtain ⟨v25, v26, e3, hd11, hd12⟩ := d10
      obtain ⟨bb4, hq3, rfl⟩ : ∃ b, b = x6.2 ∧ v26 = .bool b := ⟨_, rfl, hd12⟩
      exact Zs (E' := [(34, (.tuple #[v25, (.bool bb4)]))]) ⟨(congrArg some e3), trivial⟩ (Zp Z (Zm Z Z ⟨BX.refl _ _, ⟨_, _, Z, hd11, (congrArg Value.bool hq3)⟩⟩))
     ·
      intro w20 D hS11 hd13
      have d11 : PT2 (PV (RSlice RSpan) M1 x6.1) (PEq (.bool x6.2)) (D 9) w20 := dpA hd13 9 Z
      obtain ⟨v27, v28, e4, hd14, hd15⟩ := d11
      obtain ⟨bb5, hq4, rfl⟩ : ∃ b, b = x6.2 ∧ v28 = .bool b := ⟨_, rfl, hd15⟩
      exact Zs (E' := [(25, (.tuple #[v27, (.bool bb5)]))]) ⟨(congrArg some e4), trivial⟩ (Zp Z (ow_extract Z Z Z ⟨BX.refl _ _, hd14⟩))
     ·
      intro w21 D hS12 hd16
      have d12 : PT2 (PV (RSlice RSpan) M1 x6.1) (PEq (.bool x6.2)) (D 9) w21 := dpA hd16 9 Z
      obtain ⟨v29, v30, e5, hd17, hd18⟩ := d12
      obtain ⟨bb6, hq5, rfl⟩ : ∃ b, b = x6.2 ∧ v30 = .bool b := ⟨_, rfl, hd18⟩
      exact Zs (E' := [(25, (.tuple #[v29, (.bool bb6)]))]) ⟨(congrArg some e5), trivial⟩ (Zp Z (ow_extract Z Z Z ⟨BX.refl _ _, (congrArg Value.bool hq5)⟩))
     ·
      intro w22 D hS13 hd19
      have d13 : PV (RSlice RSpan) M1 x6.1 (D 10) w22 := dpA hd19 10 Z
      generalize hq6 : (D 10) = v31 at d13
      exact Zs (E' := [(35, v31)]) ⟨(congrArg some hq6), trivial⟩ (Zp Z (Za Z Z ⟨BX.refl _ _, d13⟩))
     ·
      intro w23 D hS14 hd20
      have d37 : PEq (.bool x6.2) (D 11) w23 := dpA hd20 11 Z
      have d38 : PV (RSlice RSpan) M1 x6.1 (D 12) w23 := dpA hd20 12 Z
      have hl23 := Le.no M1 hS14
      have hC23 := hC5.no hS14
      have hJ23 := hY.go hJ5 hS14 (fun _ e => e.elim) (fun _ h => h) hl23
      have ho22 := ho4.no hS14 hl23
      obtain ⟨bb7, hq7, hq8⟩ : ∃ b, b = x6.2 ∧ (D 11) = .bool b := ⟨_, rfl, d37⟩
      generalize hq9 : (D 12) = v32 at d38
      refine lw_sub (E' := [(36, (.bool bb7)), (7, v32), (0, (.func (.yield l) #[] #[])), (1, (.pointer (some p1p))), (2, (.pointer (some p2p))), (4, (.pointer (some ⟨g1, 0, none⟩))), (5, (.bool y1)), (6, (.int .i64 k1)), (22, (.int .i64 k1))]) ⟨(congrArg some hq8), (congrArg some hq9), Z, Z, Z, Z, Z, Z, Z, trivial⟩ (Zo Z Z Z (Za Z Z (Zn (Ze (cw_seq (cw_seq (Zr (Zo Z Z Z (Zm Z Z (Zo Z Z Z (ow_not Z Z (Zo Z Z Z (Zm Z Z ?_)))))))))))))
      replace hb5 := Zc hb5
      rcases hb5 with ⟨hc4, hb5⟩ | ⟨hc4, hb5⟩
      ·
       obtain rfl := hq7.trans hc4
       refine lw_on Z Z Z Z Z Z (Zm Z Z (lw_on Z Z Z Z Z Z (ow_len Z Z d38 Tryd.underlying59 Z (lw_on Z Z Z Z Z Z (ow_gtr Z Z Z fun bb8 hbb8 => lw_on Z Z Z Z Z Z (Zm Z Z ?_))))))
       replace hb5 := Zc hb5
       rcases hb5 with ⟨hc5, hb5⟩ | ⟨hc5, hb5⟩
       ·
        obtain rfl := hbb8.trans hc5
        refine lw_on Z Z Z Z Z Z (Zm Z Z (lw_on Z Z Z Z Z Z (ow_not Z Z (lw_on Z Z Z Z Z Z (ow_pickT Z Z Z (Zo Z Z Z (ow_pickF Z Z Z (Zn (Ze ?_)))))))))
        replace hb5 := Zc hb5
        rcases hb5 with ⟨hc6, hb5⟩ | ⟨hc6, hb5⟩
        ·
         subst hc6
         refine Zu Z (cw_skip (Ze (cw_seq (cw_seq (Zr (Zo Z Z Z (Zm Z Z (Zo Z Z Z (ow_len Z Z d38 Tryd.underlying59 Z (Zo Z Z Z (ow_gtr Z Z Z fun bb9 hbb9 => ?_)))))))))))
         obtain rfl := hbb9.trans hc5
         refine Zn (Ze (Zt Z (cw_seq (Zr (Zo Z Z Z (ow_loadA (R := (RArr 4 (RSlice RSpan))) Z Z Z ho22 (Tryd.sizeOf61 _) (Tryd.isAgg61 _) fun v33 hv33 => Zo Z Z Z (ow_alloc Z (Tryd.zeroValue61 _) hC23 fun g2 w24 hg3 hg4 ho23 hb10 hl24 hC24 => ?_)))))))
         have hk3 := hY.free hJ23 hg3
         have hJ24 := hY.go hJ23 hb10 (fun _ e => e.elim) (fun _ h => .inr h) hl24
         have hn1 := Nat.ne_of_lt (Nat.lt_of_lt_of_le ho22.lt hg3)
         have ho24 := ho22.no hb10 hl24
         have hm3 : (Add g2 M1) g1 := .inr hm2
         have hm4 : (Add g2 M1) g2 := .inl Z
         have ho25 : OwnA (RArr 4 (RSlice RSpan)) w24 (Add g2 M1) g2 61 [([] : List Span), ([] : List Span), ([] : List Span), ([] : List Span)] := OwnA.of ho23 ⟨Z, ⟨_, _, Z, (vslice_nil (R := RSpan) (w := w24) (M := (Add g2 M1))).cells, _, _, Z, (vslice_nil (R := RSpan) (w := w24) (M := (Add g2 M1))).cells, _, _, Z, (vslice_nil (R := RSpan) (w := w24) (M := (Add g2 M1))).cells, _, _, Z, (vslice_nil (R := RSpan) (w := w24) (M := (Add g2 M1))).cells, Z⟩⟩
         obtain ⟨cs2, h3, h4⟩ := ho25.own
         refine lw_op0 Z Z (ow_storeA (X := K) (R := (RArr 4 (RSlice RSpan))) Z Z Z Z h3 h4 (Tryd.sizeOf61 _) (VRep.mono hl24 hv33) hm4 (.inl hg4) hC24 fun w25 ho26 hb11 hl25 hC25 => ?_)
         have hJ25 := hY.go hJ24 hb11 (fun b e h => hk3 ((show b = g2 from e) ▸ h)) (fun _ h => h) hl25
         have ho27 := ho24.go hb11 (fun e => hn1 e) hl25
         refine Zn (Ze (cw_seq (Zr (Zo Z Z Z (Zm Z Z (Zo Z Z Z (Zm Z Z ?_)))))))
         replace hb5 := bind_some hb5
         obtain ⟨x7, hx7, hb5⟩ := hb5
         refine Zo Z Z Z (ow_indexA (R := (RSlice RSpan)) Z Z Z Z ho26 Tryd.underlying61 (Tryd.sizeOf59 _) hx7 (lw_op0 Z Z (ow_storeElA (X := K) (R := (RSlice RSpan)) Z Z Z Z ho26 hx7 (Tryd.sizeOf59 _) (VRep.mono (hl24.trans hl25) d38) hm4 (.inl hg4) hC25 fun w26 ho28 hb12 hl26 hC26 => ?_)))
         have hJ26 := hY.go hJ25 hb12 (fun b e h => hk3 ((show b = g2 from e) ▸ h)) (fun _ h => h) hl26
         have ho29 := ho27.go hb12 (fun e => hn1 e) hl26
         refine Zn (Ze (cw_seq (cw_regionY 1 (lg_op Z Z Z Z (Zm Z Z (lg_op Z Z Z Z (ow_loadA (R := (RArr 4 (RSlice RSpan))) Z Z Z ho28 (Tryd.sizeOf61 _) (Tryd.isAgg61 _) fun v34 hv34 => ?_)))))))
         replace hb5 := bind_some hb5
         obtain ⟨z1, hz1, hb5⟩ := hb5
         refine lg_yes hY Z Z Z Z Z Z hJ26 hv34 hz1 hC26 hge1 fun w27 K2 M2 hJ27 hb13 hl27 hC27 hM1 hk4 hge2 => ?_
         have hk5 := hk4 _ ho29.lt hk2
         have ho30 := ho29.go hb13 hk2 hl27
         have hm5 := hM1 _ hm3
         refine lg_op Z Z Z Z (ow_not Z Z (lg_end (Ze (Zu Z (cw_skip (Ze (cw_seq ?_)))))))
         replace hb5 := bind_some hb5
         obtain ⟨x8, hx8, hb5⟩ := hb5
         have lz2 := (((((lz1.trans hl23).trans hl24).trans hl25).trans hl26).trans hl27)
         refine cw_sub (E' := [(0, (.func (.yield l) #[] #[])), (1, (.pointer (some p1p))), (2, (.pointer (some p2p))), (4, (.pointer (some ⟨g1, 0, none⟩))), (5, (.bool true)), (6, (.int .i64 k1)), (22, (.int .i64 k1))]) ⟨Z, Z, Z, Z, Z, Z, Z, trivial⟩ (cw_drawQ 13 [PEq (.int .i64 k1), PA (RSlice RSpan) M2 x3, PV (RSlice RSpan) M2 x3, PEq (.int .i64 k1), PA (RSlice RSpan) M2 x4, PV (RSlice RSpan) M2 x4, PEq (.int .i64 k1), PEq (.int .i64 x5), PT2 (PV (RSlice RSpan) M2 x8.1) (PEq (.bool x8.2)), PT2 (PV (RSlice RSpan) M2 x8.1) (PEq (.bool x8.2)), PV (RSlice RSpan) M2 x8.1, PEq (.bool x8.2), PV (RSlice RSpan) M2 x8.1] (by kernel_rfl) Z (by kernel_rfl) ⟨Zq, PA.mono _ _ _, PV.mono _ _ _, Zq, PA.mono _ _ _, PV.mono _ _ _, Zq, Zq, (PT2.mono (PV.mono _ _ _) (Zq)), (PT2.mono (PV.mono _ _ _) (Zq)), PV.mono _ _ _, Zq, PV.mono _ _ _, trivial⟩ ⟨?_, ?_, ?_, ?_, ?_, ?_, ?_, ?_, ?_, ?_, ?_, ?_, ?_, trivial⟩ ?_)
         ·
          intro w30 D hS15 hd21
          exact Zs (E' := [(6, (.int .i64 k1))]) ⟨Z, trivial⟩ (Zp Z (Zm Z Z Zb))
         ·
          intro w31 D hS16 hd22
          have hl31 := Le.no M2 hS16
          exact Zs (E' := [(63, (.int .i64 k1)), (1, (.pointer (some p1p)))]) ⟨(dpE hd22 0 Z Z), Z, trivial⟩ (Zp Z (ow_indexArr (R := (RSlice RSpan)) Z Z Z (ARep.mono (lz2.trans hl31) hq1p) Tryd.underlying61 (Tryd.sizeOf59 _) hx3 fun p9 hp9 => ⟨BX.refl _ _, ⟨_, Z, hp9⟩⟩))
         ·
          intro w32 D hS17 hd23
          have d40 : PA (RSlice RSpan) M2 x3 (D 1) w32 := dpA hd23 1 Z
          obtain ⟨p10, e6, ha3⟩ := d40
          exact Zs (E' := [(64, (.pointer (some p10)))]) ⟨(congrArg some e6), trivial⟩ (Zp Z (Zl (R := (RSlice RSpan)) Z Z ha3 (Tryd.sizeOf59 _) (Tryd.isAgg59 _) fun v41 hv41 => ⟨BX.refl _ _, hv41⟩))
         ·
          intro w33 D hS18 hd24
          exact Zs (E' := [(6, (.int .i64 k1))]) ⟨Z, trivial⟩ (Zp Z (Zm Z Z Zb))
         ·
          intro w34 D hS19 hd25
          have hl34 := Le.no M2 hS19
          exact Zs (E' := [(66, (.int .i64 k1)), (2, (.pointer (some p2p)))]) ⟨(dpE hd25 3 Z Z), Z, trivial⟩ (Zp Z (ow_indexArr (R := (RSlice RSpan)) Z Z Z (ARep.mono (lz2.trans hl34) hq2p) Tryd.underlying61 (Tryd.sizeOf59 _) hx4 fun p11 hp11 => ⟨BX.refl _ _, ⟨_, Z, hp11⟩⟩))
         ·
          intro w35 D hS20 hd26
          have d42 : PA (RSlice RSpan) M2 x4 (D 4) w35 := dpA hd26 4 Z
          obtain ⟨p12, e7, ha4⟩ := d42
          exact Zs (E' := [(67, (.pointer (some p12)))]) ⟨(congrArg some e7), trivial⟩ (Zp Z (Zl (R := (RSlice RSpan)) Z Z ha4 (Tryd.sizeOf59 _) (Tryd.isAgg59 _) fun v42 hv42 => ⟨BX.refl _ _, hv42⟩))
         ·
          intro w36 D hS21 hd27
          exact Zs (E' := [(6, (.int .i64 k1))]) ⟨Z, trivial⟩ (Zp Z (Zm Z Z Zb))
         ·
          intro w37 D hS22 hd28
          have hl37 := Le.no M2 hS22
          have hC37 := hC27.no hS22
          refine Zs (E' := [(69, (.int .i64 k1))]) ⟨(dpE hd28 6 Z Z), trivial⟩ (Zp Z (Zk Z Z Tryd.call68 (w_impl_FieldTop (hG.mono (lz2.trans hl37)) hC37.old hx5) fun v43 w38 hv43 => ?_))
          obtain ⟨hv43, hb16⟩ := hv43
          obtain rfl := Zi hv43
          exact ⟨hb16, Z⟩
         ·
          intro w39 D hS23 hd29
          have hl39 := Le.no M2 hS23
          have hC39 := hC27.no hS23
          have d44 : PV (RSlice RSpan) M2 x3 (D 2) w39 := dpA hd29 2 Z
          have d45 : PV (RSlice RSpan) M2 x4 (D 5) w39 := dpA hd29 5 Z
          generalize hq10 : (D 2) = v44 at d44
          generalize hq11 : (D 5) = v45 at d45
          refine Zs (E' := [(65, v44), (68, v45), (70, (.int .i64 x5))]) ⟨(congrArg some hq10), (congrArg some hq11), (dpE hd29 7 Z Z), trivial⟩ (Zp Z (Zk Z Z Tryd.call80 (w_impl_meetSpans (hG.mono (lz2.trans hl39)) hC39.old d44 d45 hx8) fun v46 w40 hv46 => ?_))
          obtain ⟨⟨v47, v48, rfl, hv47, hv48⟩, hb17⟩ := hv46
          obtain ⟨bb11, hbb11, rfl⟩ := vbool_ex hv48
          exact ⟨hb17, ⟨_, _, Z, hv47, (congrArg Value.bool hbb11)⟩⟩
         ·
          intro w41 D hS24 hd30
          have d48 : PT2 (PV (RSlice RSpan) M2 x8.1) (PEq (.bool x8.2)) (D 8) w41 := dpA hd30 8 Z
          obtain ⟨v49, v50, e8, hd31, hd32⟩ := d48
          obtain ⟨bb12, hq12, rfl⟩ : ∃ b, b = x8.2 ∧ v50 = .bool b := ⟨_, rfl, hd32⟩
          exact Zs (E' := [(71, (.tuple #[v49, (.bool bb12)]))]) ⟨(congrArg some e8), trivial⟩ (Zp Z (Zm Z Z ⟨BX.refl _ _, ⟨_, _, Z, hd31, (congrArg Value.bool hq12)⟩⟩))
         ·
          intro w42 D hS25 hd33
          have d49 : PT2 (PV (RSlice RSpan) M2 x8.1) (PEq (.bool x8.2)) (D 9) w42 := dpA hd33 9 Z
          obtain ⟨v51, v52, e9, hd34, hd35⟩ := d49
          obtain ⟨bb13, hq13, rfl⟩ : ∃ b, b = x8.2 ∧ v52 = .bool b := ⟨_, rfl, hd35⟩
          exact Zs (E' := [(62, (.tuple #[v51, (.bool bb13)]))]) ⟨(congrArg some e9), trivial⟩ (Zp Z (ow_extract Z Z Z ⟨BX.refl _ _, hd34⟩))
         ·
          intro w43 D hS26 hd36
          have d50 : PT2 (PV (RSlice RSpan) M2 x8.1) (PEq (.bool x8.2)) (D 9) w43 := dpA hd36 9 Z
          obtain ⟨v53, v54, e10, hd37, hd38⟩ := d50
          obtain ⟨bb14, hq14, rfl⟩ : ∃ b, b = x8.2 ∧ v54 = .bool b := ⟨_, rfl, hd38⟩
          exact Zs (E' := [(62, (.tuple #[v53, (.bool bb14)]))]) ⟨(congrArg some e10), trivial⟩ (Zp Z (ow_extract Z Z Z ⟨BX.refl _ _, (congrArg Value.bool hq14)⟩))
         ·
          intro w44 D hS27 hd39
          have d51 : PV (RSlice RSpan) M2 x8.1 (D 10) w44 := dpA hd39 10 Z
          generalize hq15 : (D 10) = v55 at d51
          exact Zs (E' := [(72, v55)]) ⟨(congrArg some hq15), trivial⟩ (Zp Z (Za Z Z ⟨BX.refl _ _, d51⟩))
         ·
          intro w45 D hS28 hd40
          have d75 : PEq (.bool x8.2) (D 11) w45 := dpA hd40 11 Z
          have d76 : PV (RSlice RSpan) M2 x8.1 (D 12) w45 := dpA hd40 12 Z
          have hl45 := Le.no M2 hS28
          have hC45 := hC27.no hS28
          have hJ45 := hY.go hJ27 hS28 (fun _ e => e.elim) (fun _ h => h) hl45
          have ho66 := ho30.no hS28 hl45
          obtain ⟨bb15, hq16, hq17⟩ : ∃ b, b = x8.2 ∧ (D 11) = .bool b := ⟨_, rfl, d75⟩
          generalize hq18 : (D 12) = v56 at d76
          refine lw_sub (E' := [(73, (.bool bb15)), (10, v56), (0, (.func (.yield l) #[] #[])), (1, (.pointer (some p1p))), (2, (.pointer (some p2p))), (4, (.pointer (some ⟨g1, 0, none⟩))), (5, (.bool true)), (6, (.int .i64 k1)), (22, (.int .i64 k1))]) ⟨(congrArg some hq17), (congrArg some hq18), Z, Z, Z, Z, Z, Z, Z, trivial⟩ (Zo Z Z Z (Za Z Z (Zn (Ze (cw_seq (Zr (Zo Z Z Z (Zm Z Z (Zo Z Z Z (Zm Z Z (Zo Z Z Z (ow_indexA (R := (RSlice RSpan)) Z Z Z Z ho66 Tryd.underlying61 (Tryd.sizeOf59 _) hx7 (lw_op0 Z Z (ow_storeElA (X := K) (R := (RSlice RSpan)) Z Z Z Z ho66 hx7 (Tryd.sizeOf59 _) d76 hm5 (.inl hg2) hC45 fun w46 ho68 hb18 hl46 hC46 => ?_))))))))))))))
          have hJ46 := hY.go hJ45 hb18 (fun b e h => hk5 ((show b = g1 from e) ▸ h)) (fun _ h => h) hl46
          refine Zn (Ze (Zr (Zo Z Z Z (Zm Z Z (Zo Z Z Z (Zm Z Z (lw_on Z Z Z Z Z Z (Zm Z Z (Zo Z Z Z (ow_pickT Z Z Z (Zo Z Z Z (Za Z Z (Zn (ew_blockN (Ze (Zr (Zo Z Z Z (ow_add Z Z Z (Zo Z Z Z (Zm Z Z (Zn ?_)))))))))))))))))))))
          have lz4 := (((((((hl5.trans hl23).trans hl24).trans hl25).trans hl26).trans hl27).trans hl45).trans hl46)
          refine ew_nxt (x8.2, (W (k1 + 1)), (List.set y2 (k1 : Int).toNat x8.1), z1) hb5 fun a ha => ⟨M2, K2, ?_, lz4, hC46, ho68, hm5, hJ46, hge2, hk5⟩
          rw [hq16] at ha
          exact ha.sub ⟨Z, Z, Z, Z, Z, Z, trivial⟩
        ·
         subst hc6
         refine Zt Z (cw_seq (cw_regionY 1 (lg_op Z Z Z Z (Zm Z Z (lg_op Z Z Z Z (ow_build (v := .agg #[(.slice none 0 0), (.slice none 0 0), (.slice none 0 0), (.slice none 0 0)]) Z Z (by kernel_rfl) ?_))))))
         have hw1 : VRep (RArr 4 (RSlice RSpan)) w23 M1 [([] : List Span), ([] : List Span), ([] : List Span), ([] : List Span)] (.agg #[(.slice none 0 0), (.slice none 0 0), (.slice none 0 0), (.slice none 0 0)]) := ⟨_, ⟨Z, ⟨_, _, Z, (vslice_nil (R := RSpan) (w := w23) (M := M1)).cells, _, _, Z, (vslice_nil (R := RSpan) (w := w23) (M := M1)).cells, _, _, Z, (vslice_nil (R := RSpan) (w := w23) (M := M1)).cells, _, _, Z, (vslice_nil (R := RSpan) (w := w23) (M := M1)).cells, Z⟩⟩, Z⟩
         refine lg_no hY Z Z Z Z Z Z hJ23 hw1 hC23 hge1 fun w47 hx1 hx1c => lg_end (Ze (Zy (Zh (ew_blockR (Zh (Zh (ew_blockR (ew_brkR ?_))))))))
         have e11 := hR1 _ (sj hb5).symm
         subst e11
         obtain rfl := sj h
         exact ew_ret (res0 Z) ⟨_, Z, Z, .inl ⟨Z, hx1, hx1c.bx⟩⟩
       ·
        obtain rfl := hbb8.trans hc5
        refine lw_off Z Z Z Z Z Z (lw_off Z Z Z Z Z Z (lw_on Z Z Z Z Z Z (ow_pickF Z Z Z (Zo Z Z Z (ow_pickF Z Z Z (Zn (Ze (Zu Z (cw_skip (Ze (cw_seq (cw_seq (Zr (Zo Z Z Z (Zm Z Z (Zo Z Z Z (ow_len Z Z d38 Tryd.underlying59 Z (Zo Z Z Z (ow_gtr Z Z Z fun bb16 hbb16 => ?_)))))))))))))))))))
        obtain rfl := hbb16.trans hc5
        refine Zn (Ze (Zu Z (cw_skip (Ze (cw_seq ?_)))))
        replace hb5 := bind_some hb5
        obtain ⟨x9, hx9, hb5⟩ := hb5
        have lz5 := (lz1.trans hl23)
        refine cw_sub (E' := [(0, (.func (.yield l) #[] #[])), (1, (.pointer (some p1p))), (2, (.pointer (some p2p))), (4, (.pointer (some ⟨g1, 0, none⟩))), (5, (.bool y1)), (6, (.int .i64 k1)), (22, (.int .i64 k1))]) ⟨Z, Z, Z, Z, Z, Z, Z, trivial⟩ (cw_drawQ 13 [PEq (.int .i64 k1), PA (RSlice RSpan) M1 x3, PV (RSlice RSpan) M1 x3, PEq (.int .i64 k1), PA (RSlice RSpan) M1 x4, PV (RSlice RSpan) M1 x4, PEq (.int .i64 k1), PEq (.int .i64 x5), PT2 (PV (RSlice RSpan) M1 x9.1) (PEq (.bool x9.2)), PT2 (PV (RSlice RSpan) M1 x9.1) (PEq (.bool x9.2)), PV (RSlice RSpan) M1 x9.1, PEq (.bool x9.2), PV (RSlice RSpan) M1 x9.1] (by kernel_rfl) Z (by kernel_rfl) ⟨Zq, PA.mono _ _ _, PV.mono _ _ _, Zq, PA.mono _ _ _, PV.mono _ _ _, Zq, Zq, (PT2.mono (PV.mono _ _ _) (Zq)), (PT2.mono (PV.mono _ _ _) (Zq)), PV.mono _ _ _, Zq, PV.mono _ _ _, trivial⟩ ⟨?_, ?_, ?_, ?_, ?_, ?_, ?_, ?_, ?_, ?_, ?_, ?_, ?_, trivial⟩ ?_)
        ·
         intro w50 D hS29 hd41
         exact Zs (E' := [(6, (.int .i64 k1))]) ⟨Z, trivial⟩ (Zp Z (Zm Z Z Zb))
        ·
         intro w51 D hS30 hd42
         have hl50 := Le.no M1 hS30
         exact Zs (E' := [(63, (.int .i64 k1)), (1, (.pointer (some p1p)))]) ⟨(dpE hd42 0 Z Z), Z, trivial⟩ (Zp Z (ow_indexArr (R := (RSlice RSpan)) Z Z Z (ARep.mono (lz5.trans hl50) hq1p) Tryd.underlying61 (Tryd.sizeOf59 _) hx3 fun p15 hp15 => ⟨BX.refl _ _, ⟨_, Z, hp15⟩⟩))
        ·
         intro w52 D hS31 hd43
         have d78 : PA (RSlice RSpan) M1 x3 (D 1) w52 := dpA hd43 1 Z
         obtain ⟨p16, e12, ha5⟩ := d78
         exact Zs (E' := [(64, (.pointer (some p16)))]) ⟨(congrArg some e12), trivial⟩ (Zp Z (Zl (R := (RSlice RSpan)) Z Z ha5 (Tryd.sizeOf59 _) (Tryd.isAgg59 _) fun v63 hv63 => ⟨BX.refl _ _, hv63⟩))
        ·
         intro w53 D hS32 hd44
         exact Zs (E' := [(6, (.int .i64 k1))]) ⟨Z, trivial⟩ (Zp Z (Zm Z Z Zb))
        ·
         intro w54 D hS33 hd45
         have hl53 := Le.no M1 hS33
         exact Zs (E' := [(66, (.int .i64 k1)), (2, (.pointer (some p2p)))]) ⟨(dpE hd45 3 Z Z), Z, trivial⟩ (Zp Z (ow_indexArr (R := (RSlice RSpan)) Z Z Z (ARep.mono (lz5.trans hl53) hq2p) Tryd.underlying61 (Tryd.sizeOf59 _) hx4 fun p17 hp17 => ⟨BX.refl _ _, ⟨_, Z, hp17⟩⟩))
        ·
         intro w55 D hS34 hd46
         have d80 : PA (RSlice RSpan) M1 x4 (D 4) w55 := dpA hd46 4 Z
         obtain ⟨p18, e13, ha6⟩ := d80
         exact Zs (E' := [(67, (.pointer (some p18)))]) ⟨(congrArg some e13), trivial⟩ (Zp Z (Zl (R := (RSlice RSpan)) Z Z ha6 (Tryd.sizeOf59 _) (Tryd.isAgg59 _) fun v64 hv64 => ⟨BX.refl _ _, hv64⟩))
        ·
         intro w56 D hS35 hd47
         exact Zs (E' := [(6, (.int .i64 k1))]) ⟨Z, trivial⟩ (Zp Z (Zm Z Z Zb))
        ·
         intro w57 D hS36 hd48
         have hl56 := Le.no M1 hS36
         have hC56 := hC23.no hS36
         refine Zs (E' := [(69, (.int .i64 k1))]) ⟨(dpE hd48 6 Z Z), trivial⟩ (Zp Z (Zk Z Z Tryd.call68 (w_impl_FieldTop (hG.mono (lz5.trans hl56)) hC56.old hx5) fun v65 w58 hv65 => ?_))
         obtain ⟨hv65, hb21⟩ := hv65
         obtain rfl := Zi hv65
         exact ⟨hb21, Z⟩
        ·
         intro w59 D hS37 hd49
         have hl58 := Le.no M1 hS37
         have hC58 := hC23.no hS37
         have d82 : PV (RSlice RSpan) M1 x3 (D 2) w59 := dpA hd49 2 Z
         have d83 : PV (RSlice RSpan) M1 x4 (D 5) w59 := dpA hd49 5 Z
         generalize hq19 : (D 2) = v66 at d82
         generalize hq20 : (D 5) = v67 at d83
         refine Zs (E' := [(65, v66), (68, v67), (70, (.int .i64 x5))]) ⟨(congrArg some hq19), (congrArg some hq20), (dpE hd49 7 Z Z), trivial⟩ (Zp Z (Zk Z Z Tryd.call80 (w_impl_meetSpans (hG.mono (lz5.trans hl58)) hC58.old d82 d83 hx9) fun v68 w60 hv68 => ?_))
         obtain ⟨⟨v69, v70, rfl, hv69, hv70⟩, hb22⟩ := hv68
         obtain ⟨bb18, hbb18, rfl⟩ := vbool_ex hv70
         exact ⟨hb22, ⟨_, _, Z, hv69, (congrArg Value.bool hbb18)⟩⟩
        ·
         intro w61 D hS38 hd50
         have d86 : PT2 (PV (RSlice RSpan) M1 x9.1) (PEq (.bool x9.2)) (D 8) w61 := dpA hd50 8 Z
         obtain ⟨v71, v72, e14, hd51, hd52⟩ := d86
         obtain ⟨bb19, hq21, rfl⟩ : ∃ b, b = x9.2 ∧ v72 = .bool b := ⟨_, rfl, hd52⟩
         exact Zs (E' := [(71, (.tuple #[v71, (.bool bb19)]))]) ⟨(congrArg some e14), trivial⟩ (Zp Z (Zm Z Z ⟨BX.refl _ _, ⟨_, _, Z, hd51, (congrArg Value.bool hq21)⟩⟩))
        ·
         intro w62 D hS39 hd53
         have d87 : PT2 (PV (RSlice RSpan) M1 x9.1) (PEq (.bool x9.2)) (D 9) w62 := dpA hd53 9 Z
         obtain ⟨v73, v74, e15, hd54, hd55⟩ := d87
         obtain ⟨bb20, hq22, rfl⟩ : ∃ b, b = x9.2 ∧ v74 = .bool b := ⟨_, rfl, hd55⟩
         exact Zs (E' := [(62, (.tuple #[v73, (.bool bb20)]))]) ⟨(congrArg some e15), trivial⟩ (Zp Z (ow_extract Z Z Z ⟨BX.refl _ _, hd54⟩))
        ·
         intro w63 D hS40 hd56
         have d88 : PT2 (PV (RSlice RSpan) M1 x9.1) (PEq (.bool x9.2)) (D 9) w63 := dpA hd56 9 Z
         obtain ⟨v75, v76, e16, hd57, hd58⟩ := d88
         obtain ⟨bb21, hq23, rfl⟩ : ∃ b, b = x9.2 ∧ v76 = .bool b := ⟨_, rfl, hd58⟩
         exact Zs (E' := [(62, (.tuple #[v75, (.bool bb21)]))]) ⟨(congrArg some e16), trivial⟩ (Zp Z (ow_extract Z Z Z ⟨BX.refl _ _, (congrArg Value.bool hq23)⟩))
        ·
         intro w64 D hS41 hd59
         have d89 : PV (RSlice RSpan) M1 x9.1 (D 10) w64 := dpA hd59 10 Z
         generalize hq24 : (D 10) = v77 at d89
         exact Zs (E' := [(72, v77)]) ⟨(congrArg some hq24), trivial⟩ (Zp Z (Za Z Z ⟨BX.refl _ _, d89⟩))
        ·
         intro w65 D hS42 hd60
         have d113 : PEq (.bool x9.2) (D 11) w65 := dpA hd60 11 Z
         have d114 : PV (RSlice RSpan) M1 x9.1 (D 12) w65 := dpA hd60 12 Z
         have hl64 := Le.no M1 hS42
         have hC64 := hC23.no hS42
         have hJ64 := hY.go hJ23 hS42 (fun _ e => e.elim) (fun _ h => h) hl64
         have ho87 := ho22.no hS42 hl64
         obtain ⟨bb22, hq25, hq26⟩ : ∃ b, b = x9.2 ∧ (D 11) = .bool b := ⟨_, rfl, d113⟩
         generalize hq27 : (D 12) = v78 at d114
         refine lw_sub (E' := [(73, (.bool bb22)), (10, v78), (0, (.func (.yield l) #[] #[])), (1, (.pointer (some p1p))), (2, (.pointer (some p2p))), (4, (.pointer (some ⟨g1, 0, none⟩))), (5, (.bool y1)), (6, (.int .i64 k1)), (22, (.int .i64 k1))]) ⟨(congrArg some hq26), (congrArg some hq27), Z, Z, Z, Z, Z, Z, Z, trivial⟩ (Zo Z Z Z (Za Z Z (Zn (Ze (cw_seq (Zr (Zo Z Z Z (Zm Z Z (Zo Z Z Z (Zm Z Z ?_))))))))))
         replace hb5 := bind_some hb5
         obtain ⟨x10, hx10, hb5⟩ := hb5
         refine Zo Z Z Z (ow_indexA (R := (RSlice RSpan)) Z Z Z Z ho87 Tryd.underlying61 (Tryd.sizeOf59 _) hx10 (lw_op0 Z Z (ow_storeElA (X := K) (R := (RSlice RSpan)) Z Z Z Z ho87 hx10 (Tryd.sizeOf59 _) d114 hm2 (.inl hg2) hC64 fun w66 ho88 hb23 hl65 hC65 => ?_)))
         have hJ65 := hY.go hJ64 hb23 (fun b e h => hk2 ((show b = g1 from e) ▸ h)) (fun _ h => h) hl65
         refine Zn (Ze (Zr (Zo Z Z Z (Zm Z Z (Zo Z Z Z (Zm Z Z ?_))))))
         replace hb5 := Zc hb5
         rcases hb5 with ⟨hc7, hb5⟩ | ⟨hc7, hb5⟩
         ·
          subst hc7
          refine lw_on Z Z Z Z Z Z (Zm Z Z (Zo Z Z Z (ow_pickT Z Z Z (Zo Z Z Z (Za Z Z (Zn (ew_blockN (Ze (Zr (Zo Z Z Z (ow_add Z Z Z (Zo Z Z Z (Zm Z Z (Zn ?_))))))))))))))
          have lz6 := (((hl5.trans hl23).trans hl64).trans hl65)
          refine ew_nxt (x9.2, (W (k1 + 1)), (List.set y2 (k1 : Int).toNat x9.1), y3) hb5 fun a ha => ⟨M1, K1, ?_, lz6, hC65, ho88, hm2, hJ65, hge1, hk2⟩
          rw [hq25] at ha
          exact ha.sub ⟨Z, Z, Z, Z, Z, Z, trivial⟩
         ·
          subst hc7
          refine lw_off Z Z Z Z Z Z (Zo Z Z Z (ow_pickF Z Z Z (Zo Z Z Z (Za Z Z (Zn (ew_blockN (Ze (Zr (Zo Z Z Z (ow_add Z Z Z (Zo Z Z Z (Zm Z Z (Zn ?_)))))))))))))
          have lz7 := (((hl5.trans hl23).trans hl64).trans hl65)
          exact ew_nxt (false, (W (k1 + 1)), (List.set y2 (k1 : Int).toNat x9.1), y3) hb5 fun a ha => ⟨M1, K1, (ha.sub ⟨Z, Z, Z, Z, Z, Z, trivial⟩), lz7, hC65, ho88, hm2, hJ65, hge1, hk2⟩
      ·
       obtain rfl := hq7.trans hc4
       refine lw_off Z Z Z Z Z Z (lw_off Z Z Z Z Z Z (lw_off Z Z Z Z Z Z (lw_off Z Z Z Z Z Z (lw_off' Z Z Z Z Z Z (lw_off' Z Z Z Z Z Z (lw_off Z Z Z Z Z Z (Zo Z Z Z (ow_pickT Z Z Z (Zn (Ze (Zt Z (cw_seq (cw_regionY 1 (lg_op Z Z Z Z (Zm Z Z (lg_op Z Z Z Z (ow_build (v := .agg #[(.slice none 0 0), (.slice none 0 0), (.slice none 0 0), (.slice none 0 0)]) Z Z (by kernel_rfl) ?_)))))))))))))))))
       have hw2 : VRep (RArr 4 (RSlice RSpan)) w23 M1 [([] : List Span), ([] : List Span), ([] : List Span), ([] : List Span)] (.agg #[(.slice none 0 0), (.slice none 0 0), (.slice none 0 0), (.slice none 0 0)]) := ⟨_, ⟨Z, ⟨_, _, Z, (vslice_nil (R := RSpan) (w := w23) (M := M1)).cells, _, _, Z, (vslice_nil (R := RSpan) (w := w23) (M := M1)).cells, _, _, Z, (vslice_nil (R := RSpan) (w := w23) (M := M1)).cells, _, _, Z, (vslice_nil (R := RSpan) (w := w23) (M := M1)).cells, Z⟩⟩, Z⟩
       refine lg_no hY Z Z Z Z Z Z hJ23 hw2 hC23 hge1 fun w67 hx2 hx2c => lg_end (Ze (Zy (Zh (ew_blockR (Zh (Zh (ew_blockR (ew_brkR ?_))))))))
       have e17 := hR1 _ (sj hb5).symm
       subst e17
       obtain rfl := sj h
       exact ew_ret (res0 Z) ⟨_, Z, Z, .inl ⟨Z, hx2, hx2c.bx⟩⟩
    ·
     obtain rfl := hbb1.trans hc3
     exact Zu Z (cw_exit (ew_thenX (ew_thenX (ew_blockX (ew_brk (y1, k1, y2, y3) hb5 fun a ha => ⟨M1, K1, (ha.sub ⟨Z, Z, Z, Z, Z, Z, trivial⟩), hl5, hC5, ho4, hm2, hJ5, hge1, hk2⟩)))))
   ·
    rintro ⟨y4, k2, y5, y6⟩ a w68 hlr2 ⟨M3, K3, hF2, hl66, hC66, ho89, hm7, hJ66, hge3, hk7⟩
    subst hlr2
    refine ew_at (E := [(0, (.func (.yield l) #[] #[])), (1, (.pointer (some p1p))), (2, (.pointer (some p2p))), (4, (.pointer (some ⟨g1, 0, none⟩))), (5, (.bool y4)), (22, (.int .i64 k2))]) hF2 ?_
    obtain rfl := sj h
    exact ew_end (res0 Z) ⟨_, Z, Z, .inr ⟨Z, _, _, hJ66, hC66⟩⟩
  ·
   subst hc2
   refine Zt Z (cw_seq (cw_regionY 1 (lg_op Z Z Z Z (Zm Z Z (lg_op Z Z Z Z (Zl (R := (RArr 4 (RSlice RSpan))) Z Z (ARep.mono (hl1.trans hl2) hq1p) (Tryd.sizeOf61 _) (Tryd.isAgg61 _) fun v83 hv83 => ?_))))))
   replace h := bind_some h
   obtain ⟨z2, hz2, h⟩ := h
   refine lg_yes hY Z Z Z Z Z Z hJ2 hv83 hz2 hC2 (fun _ h => .inr h) fun w69 K4 M4 hJ67 hb24 hl67 hC67 hM2 hk8 hge4 => lg_end (Ze (Zy (Zh ?_)))
   obtain rfl := sj h
   exact ew_ret (res0 Z) ⟨_, Z, Z, .inr ⟨Z, _, _, hJ67, hC67⟩⟩

theorem w_impl_sides_pieces {w : World} {M : Nat → Prop} (_hG : ARep (RArr 4 RShape) w M shapes ⟨0, 0, none⟩) (hO : ∀ b, M b → b < w.heap.size) {v0p : Value} {a_s : List (List Span)} (h0 : VRep (RArr 4 (RSlice RSpan)) w M a_s v0p) {v1p : Value} {a_other : List (List Span)} (h1 : VRep (RArr 4 (RSlice RSpan)) w M a_other v1p) {r : (List (List Span)) × (List (List Span))} (h : F.impl_sides_pieces a_s a_other = some r) :
  Calls Tryd.prog 69 [v0p, v1p].toArray w fun e w' => ∃ v, e = .returned v ∧ (∃ p q, v = .func (.func 95) #[] #[.pointer (some p), .pointer (some q)] ∧ ARep (RArr 4 (RSlice RSpan)) w' M r.1 p ∧ ARep (RArr 4 (RSlice RSpan)) w' M r.2 q) ∧ BX No w w' := by
 have hC : Cx No w M w M := Cx.start hO (fun _ e => e.elim)
 clear _hG
 refine walk (N := 6) Tryd.func69 Z Tryd.ntmps69 Z (cw_seq (Zr (Zo Z Z Z (ow_box (R := (RArr 4 (RSlice RSpan))) Z Z h0 hC fun p1 w1 hp1 hb1 hl1 hC1 => Zo Z Z Z (ow_box (R := (RArr 4 (RSlice RSpan))) Z Z (VRep.mono hl1 h1) hC1 fun p2 w2 hp2 hb2 hl2 hC2 => Zo Z Z Z (Za Z Z (Zn (Ze (cw_seq (Zr (Zo Z Z Z (ow_makeFunc2 Z Z Z (Zo Z Z Z (Za Z Z (Zn (Ze (Zy ?_)))))))))))))))))
 obtain rfl := sj h
 exact ew_ret (res1 Z (.tmp Z)) ⟨_, Z, ⟨_, _, Z, ARep.mono hC2.back (ARep.mono hl2 hp1), ARep.mono hC2.back hp2⟩, hC2.bx⟩

theorem w_impl_sides_cut {w : World} {M : Nat → Prop} (hG : ARep (RArr 4 RShape) w M shapes ⟨0, 0, none⟩) (hO : ∀ b, M b → b < w.heap.size) {v0p : Value} {a_s : List (List Span)} (h0 : VRep (RArr 4 (RSlice RSpan)) w M a_s v0p) {v1p : Value} {a_other : List (List Span)} (h1 : VRep (RArr 4 (RSlice RSpan)) w M a_other v1p) {r : (List (List (List Span))) × Bool} (h : F.impl_sides_cut a_s a_other = some r) :
  Calls Tryd.prog 33 [v0p, v1p].toArray w fun e w' => ∃ v, e = .returned v ∧ (∃ u0 u1, v = .tuple #[u0, u1] ∧ VRep (RSlice (RArr 4 (RSlice RSpan))) w' M r.1 u0 ∧ VRep RBool w' M r.2 u1) ∧ BX No w w' := by
 obtain ⟨i61, hi61, hz61, hs61, hy61⟩ := info61
 have hC : Cx No w M w M := Cx.start hO (fun _ e => e.elim)
 replace h := bind_some h
 obtain ⟨x1, hx1, h⟩ := h
 replace h := bind_some h
 obtain ⟨x2, hx2, h⟩ := h
 refine walkM (N := 21) Tryd.func33 Z Tryd.ntmps33 Z (cg_seq (cg_region (lg_op Z Z Z Z (ow_box (R := (RArr 4 (RSlice RSpan))) Z Z h0 hC fun p1 w1 hp1 hb1 hl1 hC1 => lg_op Z Z Z Z (ow_box (R := (RArr 4 (RSlice RSpan))) Z Z (VRep.mono hl1 h1) hC1 fun p2 w2 hp2 hb2 hl2 hC2 => lg_op Z Z Z Z (ow_alloc Z (Tryd.zeroValue57 _) hC2 fun g4 w3 hg4 hg40 ho4 hb3 hl3 hC3 => lg_op Z Z Z Z (ow_alloc Z (Tryd.zeroValue4 _) hC3 fun g5 w4 hg5 hg50 ho5 hb4 hl4 hC4 => lg_nil (eg_then (cg_seq (cg_region (lg_op Z Z Z Z (ow_alloc Z (Tryd.zeroValue57 _) hC4 fun g6 w5 hg6 hg60 ho6 hb5 hl5 hC5 => lg_nil (eg_then ?_)))))))))))))
 have hn45 : g4 ≠ g5 := Nat.ne_of_lt (Nat.lt_of_lt_of_le ho4.lt hg5)
 have hn46 : g4 ≠ g6 := Nat.ne_of_lt (Nat.lt_of_lt_of_le (Nat.lt_of_lt_of_le ho4.lt hb4.size) hg6)
 have hn56 : g5 ≠ g6 := Nat.ne_of_lt (Nat.lt_of_lt_of_le ho5.lt hg6)
 replace ho4 := (ho4.no hb4).no hb5
 replace ho5 := ho5.no hb5
 replace hp1 := ARep.mono (((hl2.trans hl3).trans hl4).trans hl5) hp1
 replace hp2 := ARep.mono ((hl3.trans hl4).trans hl5) hp2
 replace hG := hG.mono ((((hl1.trans hl2).trans hl3).trans hl4).trans hl5)
 clear hl1 hl2 hl3 hl4 hl5 hC1 hC2 hC3 hC4 hb1 hb2 hb3 hb4 hb5 hg4 hg5 hg6
 refine cg_seq (cg_seq (cg_region (lg_op Z Z Z Z (Zl (R := (RArr 4 (RSlice RSpan))) Z Z hp1 (Tryd.sizeOf61 _) (Tryd.isAgg61 _) fun v1 hv1 => lg_op Z Z Z Z (Zl (R := (RArr 4 (RSlice RSpan))) Z Z hp2 (Tryd.sizeOf61 _) (Tryd.isAgg61 _) fun v2 hv2 => lg_op Z Z Z Z (Zk Z Z Tryd.call69 (w_impl_sides_pieces hG hC5.old hv1 hv2 hx1) fun v3 w6 hv3 => ?_))))))
 obtain ⟨⟨p, q, rfl, hp, hq⟩, hb6⟩ := hv3
 have hl6 := Le.no (Add g6 (Add g5 (Add g4 M))) hb6
 have hC6 := hC5.no hb6
 replace ho4 := ho4.no hb6
 replace ho5 := ho5.no hb6
 replace ho6 := ho6.no hb6
 replace hG := hG.mono hl6
 refine lg_nil (eg_then (cg_block (cg_rangeFunc (lbl := [.pointer (some p), .pointer (some q)]) Z Tryd.call95 fun fn a ha W hbW hat hsz => ?_)))
 have hlW := Le.no (Add g6 (Add g5 (Add g4 M))) hbW
 have hC7 := hC6.no hbW
 replace ho4 := ho4.no hbW
 replace ho5 := ho5.no hbW
 replace ho6 := ho6.no hbW
 have hD0 : w.heap.size ≤ w6.heap.size := hC6.bx.size
 have hC8 := (hC7.add hat.ltD hD0).add hat.ltl (Nat.le_succ_of_le hD0)
 have hl8 := (hlW.add (Nat.le_refl w6.heap.size)).add (Nat.le_succ w6.heap.size)
 generalize hMW : Add (w6.heap.size + 1) (Add w6.heap.size (Add g6 (Add g5 (Add g4 M)))) = MW at hC8 hl8
 generalize hl : w6.heap.size + 1 = l at *
 generalize hD : w6.heap.size = D at *
 generalize hrec : ({ state := .ready, pending := none, fn, tmps := a.tmps, params := _, assign := _, body := _, defers := D } : Loop) = rec at hat
 have hcol : Col (RArr 4 (RSlice RSpan)) w.heap.size g4 g5 g6 l D 57 4 61 rec [] (.slice none 0 0) MW W := by
  refine ⟨ho4, ho5, ho6, ownrow_nil, (fun b e => by cases e), hat, ?_⟩
  subst hMW
  rintro b (rfl | rfl | rfl | rfl | rfl | e)
  ·
   exact .inr (.inr (.inr (.inr (.inl Z))))
  ·
   exact .inr (.inr (.inr (.inl Z)))
  ·
   exact .inr (.inr (.inl Z))
  ·
   exact .inl Z
  ·
   exact .inr (.inl Z)
  ·
   cases e
 have hk0 : ∀ b, KS g4 g5 g6 l D (.slice none 0 0) b → w.heap.size ≤ b := by
  rintro b (rfl | rfl | rfl | rfl | rfl | e)
  ·
   exact hg40
  ·
   exact hg50
  ·
   exact hg60
  ·
   omega
  ·
   omega
  ·
   cases e
 have hY : Yd Tryd.prog l (RArr 4 (RSlice RSpan)) (ColJ (RArr 4 (RSlice RSpan)) w.heap.size g4 g5 g6 l D 57 4 61 rec) (fun w' => Own w' g4 57 #[.slice none 0 0] ∧ Own w' g5 4 #[.bool false] ∧ RecAt w' l D { rec with state := .done, pending := some .ret }) := by
  refine col_yd ?_ ?_
  ·
   intro xs ys M1 W1 x v u hc hv hap ho
   refine yield2 hc.at_ hrec ha (by decide) (by decide) ?_
   have hn0 : w.heap.size ≤ W1.heap.size := by have := hc.at_.ltD; omega
   have hc0 : Cx M1 { W1 with heap := #[] } (fun _ => False) W1 M1 := Cx.bare (fun _ h => h) ho
   refine cg_seq (cg_region (lg_allocStore (R := (RArr 4 (RSlice RSpan))) Z Z Z Z Z Z Z Tryd.zeroValue61 Tryd.sizeOf61 Z Z Z (by simp) hv hc0 fun p3 W2 hp3 hb2 hl2 hc2 => lg_nil (eg_then (cg_region (lg_op Z Z Z Z (Za Z Z (lg_nil ?_)))))))
   have hd2 := hc.go hb2 (fun _ e => e.elim) (fun _ h => h) hl2
   refine eg_begin hd2.at_ (by rw [← hrec]) ?_
   have hb3 := BX.putObj W2 l (.loop { rec with state := .busy })
   have hat3 : RecAt (W2.putObj l (.loop { rec with state := .busy })) l D { rec with state := .busy } := hd2.at_.put
   generalize W2.putObj l (.loop { rec with state := .busy }) = W3 at hb3 hat3
   have hml : M1 l := hc.mem l (.inr (.inr (.inr (.inl Z))))
   have hl3 : Le W2 M1 W3 M1 := Le.of_bx M1 hb3 (fun b e => (show b = l from e) ▸ hml)
   have hc3 := hc2.go hb3 (fun b e => .inr ((show b = l from e) ▸ hml))
   have o4 := hd2.o4.go hb3 (hd2.o4.ne_l hd2.at_)
   have o5 := hd2.o5.go hb3 (hd2.o5.ne_l hd2.at_)
   have o6 := hd2.o6.go hb3 (hd2.o6.ne_l hd2.at_)
   have hr3 := hd2.row.go hb3 (fun k hk e => orow_ne_l hd2.row hd2.at_ (hk.trans (congrArg some (show k = l from e)))) hl3 (fun _ h => h)
   replace hp3 := ARep.mono hl3 hp3
   refine cg_block (cg_seq (cg_seq (cg_region (lg_op Z Z Z Z (Zm Z Z (lg_op Z Z Z Z (ow_not Z Z (lg_nil (eg_then (cg_false Z (cg_skip (eg_then (cg_region ?_)))))))))))))
   have hB0 : OwnRow (RArr 4 (RSlice RSpan)) ({ W1 with heap := #[] } : World).heap.size 61 W3 M1 xs u := hr3
   refine lg_op Z Z Z Z (ow_loadOwn1 Z Z Z o6 (Tryd.isAgg57 _) Z (lg_op Z Z Z Z (Zl (R := (RArr 4 (RSlice RSpan))) Z Z hp3 (Tryd.sizeOf61 _) (Tryd.isAgg61 _) fun v1 hv1 => ?_)))
   obtain ⟨cc1, cc2, cc3, cc4, rfl⟩ := open_arr4 hv1 rfl
   refine lg_op Z Z Z Z (ow_buildSlice (R := (RArr 4 (RSlice RSpan))) (xs := [x]) (cs := #[cc1, cc2, cc3, cc4]) (e := 61) Z Z (by kernel_rfl) Z Z ⟨_, _, Z, hv1.cells, Z⟩ hc3 fun p4 W4 hw4 hb4 hl4 hc4 => lg_op Z Z Z Z (ow_append (R := (RArr 4 (RSlice RSpan))) Z Z Z Z Tryd.underlying57 hi61 hz61 hs61 hy61 Z Z Z Z (hB0.no hb4) hw4 hap hc4 fun u5 W5 M5 hr5 hb5 hl5 hc5 hM5 hat5 => ?_))
   have hrow4 := hB0.no hb4
   have o45 := (o4.no hb4).go hb5 (orow_ne hrow4 (o4.no hb4) (by decide))
   have o55 := (o5.no hb4).go hb5 (orow_ne hrow4 (o5.no hb4) (by decide))
   have o65 := (o6.no hb4).go hb5 (orow_ne hrow4 (o6.no hb4) (by decide))
   have hat4 := hat3.go hb4 (fun e => e) (fun e => e)
   have hat55 := hat4.go hb5 (orow_ne_l hrow4 hat4) (orow_ne_D hrow4 hat4)
   obtain ⟨A5, c5, rfl⟩ := hr5.len
   have hm6 : M5 g6 := hM5 _ (hc.mem g6 (.inr (.inr (.inl Z))))
   refine lg_op0 Z Z Z (ow_store (X := M1) (us := [(.slice A5 ys.length c5)]) (cs' := #[(.slice A5 ys.length c5)]) Z Z Z Z o65 (Tryd.sizeOf57 _) Z Z Z Z hm6 (.inl (Nat.zero_le _)) Z hc5 fun W6 o66 hb6' hl6' hc6 => ?_)
   have o46 := o45.go hb6' (fun e => hn46 e)
   have o56 := o55.go hb6' (fun e => hn56 e)
   have hat6 := hat55.go hb6' (fun e => o65.ne_l hat55 (show l = g6 from e).symm) (fun e => o65.ne_D hat55 (show D = g6 from e).symm)
   have hr6 := hr5.go hb6' (fun k hk e => (orow_ne hr5 o65 (by decide)) (hk.trans (congrArg some e))) hl6' (fun _ h => h)
   refine lg_nil (eg_blockN (eg_next hat6 (by rw [← hrec]) (by rw [← hrec]) ⟨Z, ?_⟩))
   have hb7 := BX.putObj W6 l (.loop rec)
   have hat7 : RecAt (W6.putObj l (.loop rec)) l D rec := hat6.put
   generalize W6.putObj l (.loop rec) = W7 at hb7 hat7
   have hml7 : M5 l := hM5 _ hml
   have hl7 : Le W6 M5 W7 M5 := Le.of_bx M5 hb7 (fun b e => (show b = l from e) ▸ hml7)
   have hK : ∀ b, b = l → KS g4 g5 g6 l D u b := fun b e => .inr (.inr (.inr (.inl e)))
   have hs14 : W1.heap.size ≤ W4.heap.size := Nat.le_trans hb2.size (Nat.le_trans hb3.size hb4.size)
   have hbA : BX (KS g4 g5 g6 l D u) W1 W4 := (hb2.mono fun _ _ e => e.elim).trans ((hb3.mono fun b _ e => hK b e).trans (hb4.mono fun _ _ e => e.elim))
   have hbB : BX (KS g4 g5 g6 l D u) W4 W5 := hb5.mono fun b _ e => .inr (.inr (.inr (.inr (.inr e))))
   have hbC : BX (KS g4 g5 g6 l D u) W5 W6 := hb6'.mono fun b _ e => .inr (.inr (.inl e))
   have hbD : BX (KS g4 g5 g6 l D u) W6 W7 := hb7.mono fun b _ e => hK b e
   have hlall := ((((hl2.trans hl3).trans hl4).trans hl5).trans hl6').trans hl7
   have hold7 : ∀ b, M5 b → b < W7.heap.size := fun b h => Nat.lt_of_lt_of_le (hc6.old b h) hb7.size
   have hown5 : ∀ b, (Value.slice A5 ys.length c5).ownBlock = some b → u.ownBlock = some b ∨ b = W4.heap.size := fun b e => hat5.elim (fun h => .inl (h ▸ e)) fun h => .inr (by rw [h] at e; exact (sj e).symm)
   refine ⟨_, M5, ⟨o46.go hb7 (o46.ne_l hat6), o56.go hb7 (o56.ne_l hat6), o66.go hb7 (o66.ne_l hat6), hr6.go hb7 (fun k hk e => orow_ne_l hr6 hat6 (hk.trans (congrArg some (show k = l from e)))) hl7 (fun _ h => h), ?_, hat7, ?_⟩, hbA.trans (hbB.trans (hbC.trans hbD)), hM5, ?_, ?_⟩
   ·
    intro b e
    rcases hown5 b e with h | h
    ·
     exact hc.rb b h
    ·
     have := hs14; have := hn0; omega
   ·
    rintro b (rfl | rfl | rfl | rfl | rfl | e)
    ·
     exact hM5 _ (hc.mem _ (.inl Z))
    ·
     exact hM5 _ (hc.mem _ (.inr (.inl Z)))
    ·
     exact hm6
    ·
     exact hml7
    ·
     exact hM5 _ (hc.mem _ (.inr (.inr (.inr (.inr (.inl Z))))))
    ·
     exact hr6.mem b e
   ·
    intro b hb
    by_cases hlt : b < W1.heap.size
    ·
     exact .inl (hlall.old b hlt hb)
    ·
     exact .inr ⟨by omega, hold7 b hb⟩
   ·
    rintro b (rfl | rfl | rfl | rfl | rfl | e)
    ·
     exact .inl (.inl Z)
    ·
     exact .inl (.inr (.inl Z))
    ·
     exact .inl (.inr (.inr (.inl Z)))
    ·
     exact .inl (.inr (.inr (.inr (.inl Z))))
    ·
     exact .inl (.inr (.inr (.inr (.inr (.inl Z)))))
    ·
     rcases hown5 b e with h | h
     ·
      exact .inl (.inr (.inr (.inr (.inr (.inr h)))))
     ·
      exact .inr (by have := hs14; omega)
  ·
   intro xs M1 W1 x v u hc hv ho
   refine yield2 hc.at_ hrec ha (by decide) (by decide) ?_
   have hc0 : Cx M1 { W1 with heap := #[] } (fun _ => False) W1 M1 := Cx.bare (fun _ h => h) ho
   refine cg_seq (cg_region (lg_allocStore (R := (RArr 4 (RSlice RSpan))) Z Z Z Z Z Z Z Tryd.zeroValue61 Tryd.sizeOf61 Z Z Z (by simp) hv hc0 fun p3 W2 hp3 hb2 hl2 hc2 => lg_nil (eg_then (cg_region (lg_op Z Z Z Z (Za Z Z (lg_nil ?_)))))))
   have hd2 := hc.go hb2 (fun _ e => e.elim) (fun _ h => h) hl2
   refine eg_begin hd2.at_ (by rw [← hrec]) ?_
   have hb3 := BX.putObj W2 l (.loop { rec with state := .busy })
   have hat3 : RecAt (W2.putObj l (.loop { rec with state := .busy })) l D { rec with state := .busy } := hd2.at_.put
   generalize W2.putObj l (.loop { rec with state := .busy }) = W3 at hb3 hat3
   have hc3 := hc2.go hb3 (fun b e => .inr ((show b = l from e) ▸ hc.mem l (.inr (.inr (.inr (.inl Z))))))
   have o4 := hd2.o4.go hb3 (hd2.o4.ne_l hd2.at_)
   have o5 := hd2.o5.go hb3 (hd2.o5.ne_l hd2.at_)
   refine cg_block (cg_seq (cg_seq (cg_region (lg_op Z Z Z Z (Zm Z Z (lg_op Z Z Z Z (ow_not Z Z (lg_nil (eg_then (cg_true Z (cg_seq (cg_region (lg_op0 Z Z Z (ow_store (X := M1) (us := [(.slice none 0 0)]) (cs' := #[(.slice none 0 0)]) Z Z Z Z o4 (Tryd.sizeOf57 _) Z Z Z Z (hc.mem g4 (.inl Z)) (.inl (Nat.zero_le _)) Z hc3 fun W4 o44 hb4 hl4 hc4 => ?_))))))))))))))
   have o54 := o5.go hb4 (fun e => hn45 e.symm)
   have hat4 := hat3.go hb4 (fun e => o4.ne_l hat3 (show l = g4 from e).symm) (fun e => o4.ne_D hat3 (show D = g4 from e).symm)
   refine lg_op0 Z Z Z (ow_store (X := M1) (us := [(.bool false)]) (cs' := #[(.bool false)]) Z Z Z Z o54 (Tryd.sizeOf4 _) Z Z Z Z (hc.mem g5 (.inr (.inl Z))) (.inl (Nat.zero_le _)) Z hc4 fun W5 o55 hb5 hl5 hc5 => ?_)
   have o45 := o44.go hb5 (fun e => hn45 e)
   have hat5 := hat4.go hb5 (fun e => o54.ne_l hat4 (show l = g5 from e).symm) (fun e => o54.ne_D hat4 (show D = g5 from e).symm)
   refine lg_nil (eg_then (cg_ret (eg_thenR (eg_blockR (eg_stop hat5 ⟨Z, ?_⟩)))))
   have hb6 := BX.putObj W5 l (.loop { rec with state := .done, pending := some .ret })
   have hat6 : RecAt (W5.putObj l (.loop { rec with state := .done, pending := some .ret })) l D { rec with state := .done, pending := some .ret } := hat5.put
   have hK : ∀ b, b = l → KS g4 g5 g6 l D u b := fun b e => .inr (.inr (.inr (.inl e)))
   exact ⟨⟨o45.go hb6 (o45.ne_l hat5), o55.go hb6 (o55.ne_l hat5), hat6⟩, (hb2.mono fun _ _ e => e.elim).trans ((hb3.mono fun b _ e => hK b e).trans ((hb4.mono fun b _ e => .inl e).trans ((hb5.mono fun b _ e => .inr (.inl e)).trans (hb6.mono fun b _ e => hK b e))))⟩
 have hgW := hG.mono hl8
 refine (w_impl_sides_pieces_1 hgW hC8.old hY ⟨_, Z, hcol⟩ (ARep.mono hl8 hp) (ARep.mono hl8 hq) hx2).mono ?_
 rintro e w3 ⟨v, rfl, rfl, hend⟩
 rcases hend with ⟨hs, ⟨o4, o5, hat3⟩, hb3⟩ | ⟨hs, K, M', ⟨u, rfl, hc3⟩, hC9⟩
 ·
  rw [hs] at h
  obtain rfl := sj h
  refine ⟨_, _, Z, hat3, by simp, .inr ⟨_, Z, ?_⟩⟩
  have hC9 := hC8.go hb3 (fun b e => .inl (hk0 b e))
  have hb4 := BX.putObj w3 l (.loop { rec with state := .exhausted, pending := some .ret })
  have hat4 : RecAt (w3.putObj l (.loop { rec with state := .exhausted, pending := some .ret })) l D { rec with state := .exhausted, pending := some .ret } := hat3.put
  replace o4 := o4.go hb4 (o4.ne_l hat3)
  replace o5 := o5.go hb4 (o5.ne_l hat3)
  have hC10 := hC9.go hb4 (fun b e => .inl (by have : b = l := e; omega))
  refine cg_ret (eg_blockR (eg_thenR ?_))
  have hb5 := BX.putObj (w3.putObj l (.loop { rec with state := .exhausted, pending := some .ret })) D (.deferred none)
  have hC11 := hC10.go hb5 (fun b e => .inl (by have : b = D := e; omega))
  refine eg_retM hat4.2 (res2 Z (.cell Z (own_loadVar1 (o4.go hb5 (o4.ne_D hat4)) (Tryd.isAgg57 _))) (.cell Z (own_loadVar1 (o5.go hb5 (o5.ne_D hat4)) (Tryd.isAgg4 _)))) ⟨_, Z, ⟨_, _, Z, vslice_nil, vbool _⟩, hC11.bx⟩
 ·
  rw [hs] at h
  obtain rfl := sj h
  have hC10 := hC8.trans2 hC9 (fun b e => .inl (hk0 b e))
  refine ⟨_, rec, Z, hc3.at_, by rw [← hrec]; simp, .inl ⟨by rw [← hrec], ?_⟩⟩
  have hb4 := BX.putObj w3 l (.loop { rec with state := .exhausted })
  have hat4 : RecAt (w3.putObj l (.loop { rec with state := .exhausted })) l D { rec with state := .exhausted } := hc3.at_.put
  generalize w3.putObj l (.loop { rec with state := .exhausted }) = w4 at hb4 hat4
  have o4 := hc3.o4.go hb4 (hc3.o4.ne_l hc3.at_)
  have o5 := hc3.o5.go hb4 (hc3.o5.ne_l hc3.at_)
  have o6 := hc3.o6.go hb4 (hc3.o6.ne_l hc3.at_)
  have hml : M' l := hc3.mem l (.inr (.inr (.inr (.inl Z))))
  have hl4 : Le w3 M' w4 M' := Le.of_bx M' hb4 (fun b e => (show b = l from e) ▸ hml)
  have hC11 := hC10.go hb4 (fun b e => .inl (by have : b = l := e; omega))
  have hr4 := (hc3.row.go hb4 (fun k hk e => orow_ne_l hc3.row hc3.at_ (hk.trans (congrArg some (show k = l from e)))) hl4 (fun _ h => h)).raise hc3.rb
  refine eg_blockN (eg_then (cg_seq (cg_region (lg_op Z Z Z Z (ow_loadOwn1 Z Z Z o6 (Tryd.isAgg57 _) Z ?_)))))
  obtain ⟨A5, c5, rfl⟩ := hr4.len
  refine lg_op0 Z Z Z (ow_store (X := No) (us := [(.slice A5 x2.2.length c5)]) (cs' := #[(.slice A5 x2.2.length c5)]) Z Z Z Z o4 (Tryd.sizeOf57 _) Z Z Z Z (hc3.mem g4 (.inl Z)) (.inl hg40) Z hC11 fun w5 o45 hb5 hl5 hC12 => ?_)
  have o55 := o5.go hb5 (fun e => hn45 e.symm)
  have hat5 := hat4.go hb5 (fun e => o4.ne_l hat4 (show l = g4 from e).symm) (fun e => o4.ne_D hat4 (show D = g4 from e).symm)
  have hr5 := hr4.go hb5 (fun k hk e => (orow_ne hr4 o4 (by decide)) (hk.trans (congrArg some e))) hl5 (fun _ h => h)
  refine lg_op0 Z Z Z (ow_store (X := No) (us := [(.bool true)]) (cs' := #[(.bool true)]) Z Z Z Z o55 (Tryd.sizeOf4 _) Z Z Z Z (hc3.mem g5 (.inr (.inl Z))) (.inl hg50) Z hC12 fun w6' o56 hb6' hl6' hC13 => ?_)
  have o46 := o45.go hb6' (fun e => hn45 e)
  have hat6 := hat5.go hb6' (fun e => o55.ne_l hat5 (show l = g5 from e).symm) (fun e => o55.ne_D hat5 (show D = g5 from e).symm)
  have hr6 := hr5.go hb6' (fun k hk e => (orow_ne hr5 o55 (by decide)) (hk.trans (congrArg some e))) hl6' (fun _ h => h)
  refine lg_nil (eg_then (cg_ret ?_))
  have hb7 := BX.putObj w6' D (.deferred none)
  have hmD : M' D := hc3.mem D (.inr (.inr (.inr (.inr (.inl Z)))))
  have hl7 : Le w6' M' _ M' := Le.of_bx M' hb7 (fun b e => (show b = D from e) ▸ hmD)
  have hC14 := hC13.go hb7 (fun b e => .inl (by have : b = D := e; omega))
  have hr7 := hr6.go hb7 (fun k hk e => orow_ne_D hr6 hat6 (hk.trans (congrArg some (show k = D from e)))) hl7 (fun _ h => h)
  refine eg_retM hat6.2 (res2 Z (.cell Z (own_loadVar1 (o46.go hb7 (o46.ne_D hat6)) (Tryd.isAgg57 _))) (.cell Z (own_loadVar1 (o56.go hb7 (o56.ne_D hat6)) (Tryd.isAgg4 _)))) ⟨_, Z, ⟨_, _, Z, hr7.freezeBack hC14 hO, vbool _⟩, hC14.bx⟩

theorem w_impl_sides_lessRegion {w : World} {M : Nat → Prop} (hG : ARep (RArr 4 RShape) w M shapes ⟨0, 0, none⟩) (hO : ∀ b, M b → b < w.heap.size) {v0p : Value} {a_s : List (List Span)} (h0 : VRep (RArr 4 (RSlice RSpan)) w M a_s v0p) {v1p : Value} {a_region : List (List (List Span))} (h1 : VRep (RSlice (RArr 4 (RSlice RSpan))) w M a_region v1p) {r : (List (List (List Span))) × Bool} (h : F.impl_sides_lessRegion a_s a_region = some r) :
  Calls Tryd.prog 50 [v0p, v1p].toArray w fun e w' => ∃ v, e = .returned v ∧ (∃ u0 u1, v = .tuple #[u0, u1] ∧ VRep (RSlice (RArr 4 (RSlice RSpan))) w' M r.1 u0 ∧ VRep RBool w' M r.2 u1) ∧ BX No w w' := by
 obtain ⟨i61, hi61, hz61, hs61, hy61⟩ := info61
 have hC : Cx No w M w M := Cx.start hO (fun _ e => e.elim)
 refine walk (N := 56) Tryd.func50 Z Tryd.ntmps50 Z (cw_seq (Zr (Zo Z Z Z (ow_box (R := (RArr 4 (RSlice RSpan))) Z Z h0 hC fun p1 w1 hp1 hb1 hl1 hC1 => Zo Z Z Z (Za Z Z (Zo Z Z Z (Za Z Z (Zn (Ze (cw_seq (cw_seq (Zr (Zo Z Z Z (Zl (R := (RArr 4 (RSlice RSpan))) Z Z hp1 (Tryd.sizeOf61 _) (Tryd.isAgg61 _) fun v1 hv1 => ?_))))))))))))))
 replace h := bind_some h
 obtain ⟨x1, hx1, h⟩ := h
 refine Zo Z Z Z (Zk Z Z Tryd.call43 (w_impl_sides_empty (hG.mono hl1) hC1.old hv1 hx1) fun v2 w2 hv2 => ?_)
 obtain ⟨hv2, hb2⟩ := hv2
 have hl2 := Le.no M hb2
 have hC2 := hC1.no hb2
 obtain rfl := vbool_eq hv2
 refine Zn (Ze ?_)
 replace h := Zc h
 rcases h with ⟨hc1, h⟩ | ⟨hc1, h⟩
 ·
  subst hc1
  refine Zt Z (cw_seq (Zr (Zo Z Z Z (Za Z Z (Zo Z Z Z (Za Z Z (Zn (Ze (Zy (Zh ?_))))))))))
  obtain rfl := sj h
  exact ew_ret (res2 Z (.tmp Z) (.tmp Z)) ⟨_, Z, ⟨_, _, Z, (VRep.mono hC2.back (vslice_nil (R := (RArr 4 (RSlice RSpan))) (w := w2) (M := M))), ((vbool _))⟩, hC2.bx⟩
 ·
  subst hc1
  refine Zu Z (cw_skip (Ze (cw_seq (Zr (Zo Z Z Z (Zl (R := (RArr 4 (RSlice RSpan))) Z Z (ARep.mono hl2 hp1) (Tryd.sizeOf61 _) (Tryd.isAgg61 _) fun v3 hv3 => ?_))))))
  obtain ⟨cc1, cc2, cc3, cc4, rfl⟩ := open_arr4 hv3 rfl
  refine Zo Z Z Z (ow_buildSlice (R := (RArr 4 (RSlice RSpan))) (xs := [a_s]) (cs := #[cc1, cc2, cc3, cc4]) (e := 61) Z Z (by kernel_rfl) Z Z ⟨_, _, Z, hv3.cells, Z⟩ hC2 fun p2 w3 hw1 hb3 hl3 hC3 => Zo Z Z Z (Za Z Z (Zn (Ze (cw_seq (cw_seq (Zr (Zo Z Z Z (Zm Z Z ?_)))))))))
  have lz1 := ((hl1.trans hl2).trans hl3)
  refine Zo Z Z Z (ow_len Z Z (VRep.mono lz1 h1) Tryd.underlying57 Z (Zo Z Z Z (Zm Z Z (Zn (Ze ?_)))))
  replace h := bind_some h
  obtain ⟨lr1, hlr1, h⟩ := h
  refine cw_for hlr1 (fun s a w' => ∃ (M' : Nat → Prop) (v0c : Value), Fits 56 [(6, v0c), (18, v1p), (19, (.int .i64 (a_region.length : Int))), (20, (.int .i64 s.2))] a ∧ Le w3 M w' M' ∧ Cx No w M w' M' ∧ VRep (RSlice (RArr 4 (RSlice RSpan))) w' M' s.1 v0c) ?_ ?_ ?_
  ·
   intro a ha
   exact ⟨M, (.slice (some p2) 1 1), ha.sub ⟨Z, Z, Z, Z, trivial⟩, Le.refl _ _, hC3, hw1⟩
  ·
   rintro ⟨y1, k1⟩ a w4 sr1 ⟨M1, v4, hF1, hl4, hC4, hw2⟩ hb4 hR1
   refine cw_at (E := [(6, v4), (18, v1p), (19, (.int .i64 (a_region.length : Int))), (20, (.int .i64 k1))]) hF1 (cw_seq (Zr (Zo Z Z Z (ow_lss Z Z Z fun bb1 hbb1 => Zn (Ze (cw_seq ?_))))))
   replace hb4 := Zc hb4
   rcases hb4 with ⟨hc2, hb4⟩ | ⟨hc2, hb4⟩
   ·
    obtain rfl := hbb1.trans hc2
    refine Zt Z (cw_skip (Ze (cw_seq (cw_block (cw_seq (Zr ?_))))))
    replace hb4 := bind_some hb4
    obtain ⟨x2, hx2, hb4⟩ := hb4
    refine Zo Z Z Z (Zx (R := (RArr 4 (RSlice RSpan))) Z Z Z (VRep.mono (lz1.trans hl4) h1) Tryd.underlying57 (Tryd.sizeOf61 _) hx2 fun p3 hp3 => Zo Z Z Z (Zl (R := (RArr 4 (RSlice RSpan))) Z Z hp3 (Tryd.sizeOf61 _) (Tryd.isAgg61 _) fun v6 hv6 => lw_allocStore (R := (RArr 4 (RSlice RSpan))) Z Z Z Z Z Z Z Tryd.zeroValue61 Tryd.sizeOf61 Z Z Z (by simp) hv6 hC4 fun p4 w5 hp4 hb5 hl5 hC5 => Zn (Ze (cw_seq (Zr (Zo Z Z Z (Za Z Z (Zn (Ze (cw_seq (cw_seq (Zr (Zo Z Z Z (Zm Z Z (Zo Z Z Z (ow_len Z Z (VRep.mono hl5 hw2) Tryd.underlying57 Z (Zo Z Z Z (Zm Z Z (Zn (Ze ?_))))))))))))))))))))
    have hr1 : OwnRow (RArr 4 (RSlice RSpan)) w.heap.size 61 w5 M1 ([] : List (List (List Span))) (.slice none 0 0) := ownrow_nil
    replace hb4 := bind_some hb4
    obtain ⟨lr2, hlr2, hb4⟩ := hb4
    refine cw_for hlr2 (fun s a w' => ∃ (M' : Nat → Prop) (v0c : Value), Fits 56 [(8, (.pointer (some p4))), (9, v0c), (18, v1p), (19, (.int .i64 (a_region.length : Int))), (20, (.int .i64 k1)), (24, v4), (25, (.int .i64 (y1.length : Int))), (26, (.int .i64 s.2))] a ∧ Le w5 M1 w' M' ∧ Cx No w M w' M' ∧ OwnRow (RArr 4 (RSlice RSpan)) w.heap.size 61 w' M' s.1 v0c) ?_ ?_ ?_
    ·
     intro a ha
     exact ⟨M1, (.slice none 0 0), ha.sub ⟨Z, Z, Z, Z, Z, Z, Z, Z, trivial⟩, Le.refl _ _, hC5, hr1⟩
    ·
     rintro ⟨y2, k2⟩ a w6 sr2 ⟨M2, v7, hF2, hl6, hC6, hw3⟩ hb6 hR2
     refine cw_at (E := [(8, (.pointer (some p4))), (9, v7), (18, v1p), (19, (.int .i64 (a_region.length : Int))), (20, (.int .i64 k1)), (24, v4), (25, (.int .i64 (y1.length : Int))), (26, (.int .i64 k2))]) hF2 (cw_seq (Zr (Zo Z Z Z (ow_lss Z Z Z fun bb2 hbb2 => Zn (Ze (cw_seq ?_))))))
     replace hb6 := Zc hb6
     rcases hb6 with ⟨hc3, hb6⟩ | ⟨hc3, hb6⟩
     ·
      obtain rfl := hbb2.trans hc3
      refine Zt Z (cw_skip (Ze (cw_seq (cw_block (cw_seq (Zr ?_))))))
      replace hb6 := bind_some hb6
      obtain ⟨x3, hx3, hb6⟩ := hb6
      refine Zo Z Z Z (Zx (R := (RArr 4 (RSlice RSpan))) Z Z Z (VRep.mono (hl5.trans hl6) hw2) Tryd.underlying57 (Tryd.sizeOf61 _) hx3 fun p5 hp5 => Zo Z Z Z (Zl (R := (RArr 4 (RSlice RSpan))) Z Z hp5 (Tryd.sizeOf61 _) (Tryd.isAgg61 _) fun v9 hv9 => lw_allocStore (R := (RArr 4 (RSlice RSpan))) Z Z Z Z Z Z Z Tryd.zeroValue61 Tryd.sizeOf61 Z Z Z (by simp) hv9 hC6 fun p6 w7 hp6 hb7 hl7 hC7 => ?_))
      have hr2 := hw3.no hb7
      refine Zn (Ze (cw_seq (Zr (Zo Z Z Z (Zl (R := (RArr 4 (RSlice RSpan))) Z Z hp6 (Tryd.sizeOf61 _) (Tryd.isAgg61 _) fun v10 hv10 => Zo Z Z Z (Zl (R := (RArr 4 (RSlice RSpan))) Z Z (ARep.mono (hl6.trans hl7) hp4) (Tryd.sizeOf61 _) (Tryd.isAgg61 _) fun v11 hv11 => ?_))))))
      replace hb6 := bind_some hb6
      obtain ⟨x4, hx4, hb6⟩ := hb6
      have lz2 := ((((lz1.trans hl4).trans hl5).trans hl6).trans hl7)
      refine Zo Z Z Z (Zk Z Z Tryd.call33 (w_impl_sides_cut (hG.mono lz2) hC7.old hv10 hv11 hx4) fun v12 w8 hv12 => ?_)
      obtain ⟨⟨v13, v14, rfl, hv13, hv14⟩, hb8⟩ := hv12
      have hl8 := Le.no M2 hb8
      have hC8 := hC7.no hb8
      have hr3 := hr2.no hb8
      obtain ⟨bb3, hbb3, rfl⟩ := vbool_ex hv14
      refine Zo Z Z Z (Zm Z Z (Zo Z Z Z (ow_extract Z Z Z (Zo Z Z Z (ow_extract Z Z Z (Zo Z Z Z (Za Z Z (Zo Z Z Z (Za Z Z (Zn (Ze (cw_seq (cw_seq (Zr (Zo Z Z Z (Zm Z Z (Zo Z Z Z (ow_not Z Z (Zo Z Z Z (Zm Z Z ?_))))))))))))))))))))
      replace hb6 := Zc hb6
      rcases hb6 with ⟨hc4, hb6⟩ | ⟨hc4, hb6⟩
      ·
       obtain rfl := hbb3.trans hc4
       refine lw_on Z Z Z Z Z Z (Zm Z Z (lw_on Z Z Z Z Z Z (ow_lenOwn Z Z hr3 Tryd.underlying57 (lw_on Z Z Z Z Z Z (Zm Z Z (lw_on Z Z Z Z Z Z (ow_len Z Z hv13 Tryd.underlying57 Z (lw_on Z Z Z Z Z Z (ow_add Z Z Z (lw_on Z Z Z Z Z Z (ow_gtr Z Z Z fun bb4 hbb4 => Zo Z Z Z (ow_pickF Z Z Z (Zn (Ze ?_))))))))))))))
       replace hb6 := Zc hb6
       rcases hb6 with ⟨hc5, hb6⟩ | ⟨hc5, hb6⟩
       ·
        obtain rfl := hbb4.trans hc5
        refine Zt Z (cw_seq (Zr (Zo Z Z Z (Za Z Z (Zo Z Z Z (Za Z Z (Zn (Ze (Zy (Zh (ew_blockR (Zh (Zh (ew_blockR (ew_brkR (Zh (ew_blockR (Zh (Zh (ew_blockR (ew_brkR (Zh ?_))))))))))))))))))))))
        have e1 := hR2 _ (sj hb6).symm
        subst e1
        have e2 := hR1 _ (sj hb4).symm
        subst e2
        obtain rfl := sj h
        exact ew_ret (res2 Z (.tmp Z) (.tmp Z)) ⟨_, Z, ⟨_, _, Z, (VRep.mono hC8.back (vslice_nil (R := (RArr 4 (RSlice RSpan))) (w := w8) (M := M2))), ((vbool _))⟩, hC8.bx⟩
       ·
        obtain rfl := hbb4.trans hc5
        refine Zu Z (cw_skip (Ze (Zr (Zo Z Z Z (Zm Z Z (Zo Z Z Z (Zm Z Z ?_)))))))
        replace hb6 := bind_some hb6
        obtain ⟨z1, hz1, hb6⟩ := hb6
        refine Zo Z Z Z (ow_append (R := (RArr 4 (RSlice RSpan))) Z Z Z Z Tryd.underlying57 hi61 hz61 hs61 hy61 Z Z Z Z hr3 hv13 hz1 hC8 fun v15 w9 M3 hr4 hb9 hl9 hC9 hM1 hat1 => Zo Z Z Z (Za Z Z (Zn (ew_blockN (Ze (Zr (Zo Z Z Z (ow_add Z Z Z (Zo Z Z Z (Zm Z Z (Zn ?_)))))))))))
        have lz3 := (((hl6.trans hl7).trans hl8).trans hl9)
        exact ew_nxt (z1, (W (k2 + 1))) hb6 fun a ha => ⟨M3, v15, (ha.sub ⟨Z, Z, Z, Z, Z, Z, Z, Z, trivial⟩), lz3, hC9, hr4⟩
      ·
       obtain rfl := hbb3.trans hc4
       refine lw_off Z Z Z Z Z Z (lw_off Z Z Z Z Z Z (lw_off Z Z Z Z Z Z (lw_off Z Z Z Z Z Z (lw_off Z Z Z Z Z Z (lw_off Z Z Z Z Z Z (Zo Z Z Z (ow_pickT Z Z Z (Zn (Ze (Zt Z (cw_seq (Zr (Zo Z Z Z (Za Z Z (Zo Z Z Z (Za Z Z (Zn (Ze (Zy (Zh (ew_blockR (Zh (Zh (ew_blockR (ew_brkR (Zh (ew_blockR ?_)))))))))))))))))))))))))))
       refine Zh (Zh (ew_blockR (ew_brkR (Zh ?_))))
       have e3 := hR2 _ (sj hb6).symm
       subst e3
       have e4 := hR1 _ (sj hb4).symm
       subst e4
       obtain rfl := sj h
       exact ew_ret (res2 Z (.tmp Z) (.tmp Z)) ⟨_, Z, ⟨_, _, Z, (VRep.mono hC8.back (vslice_nil (R := (RArr 4 (RSlice RSpan))) (w := w8) (M := M2))), ((vbool _))⟩, hC8.bx⟩
     ·
      obtain rfl := hbb2.trans hc3
      exact Zu Z (cw_exit (ew_thenX (ew_thenX (ew_blockX (ew_brk (y2, k2) hb6 fun a ha => ⟨M2, v7, (ha.sub ⟨Z, Z, Z, Z, Z, Z, Z, Z, trivial⟩), hl6, hC6, hw3⟩)))))
    ·
     rintro ⟨y3, k3⟩ a w10 hlr3 ⟨M4, v16, hF3, hl10, hC10, hw4⟩
     subst hlr3
     refine ew_at (E := [(8, (.pointer (some p4))), (9, v16), (18, v1p), (19, (.int .i64 (a_region.length : Int))), (20, (.int .i64 k1)), (24, v4), (25, (.int .i64 (y1.length : Int))), (26, (.int .i64 k3))]) hF3 (Ze (cw_seq (Zr (Zo Z Z Z (Zm Z Z (Zo Z Z Z (Za Z Z (Zn (Ze (cw_seq (Zr (Zo Z Z Z (Zm Z Z (Zo Z Z Z (ow_lenOwn Z Z hw4 Tryd.underlying57 (Zo Z Z Z (ow_eqlI Z Z Z fun bb5 hbb5 => Zn (Ze ?_))))))))))))))))))
     replace hb4 := Zc hb4
     rcases hb4 with ⟨hc6, hb4⟩ | ⟨hc6, hb4⟩
     ·
      obtain rfl := hbb5.trans hc6
      refine Zt Z (cw_exit (ew_blockO Z (ew_thenX (ew_thenX (ew_blockX ?_)))))
      have hw5 := hw4.freezeDel
      have hC11 := hw4.cxDel hC10 (fun _ e => e.elim) hO
      have hl11 := Le.del w10 M4 v16
      have lz4 := (((hl4.trans hl5).trans hl10).trans hl11)
      exact ew_brk (y3, k1) hb4 fun a ha => ⟨(Del v16 M4), v16, (ha.sub ⟨Z, Z, Z, Z, trivial⟩), lz4, hC11, hw5⟩
     ·
      obtain rfl := hbb5.trans hc6
      refine Zu Z (cw_skip (ew_blockN (Ze (Zr (Zo Z Z Z (ow_add Z Z Z (Zo Z Z Z (Zm Z Z (Zn ?_)))))))))
      have hw6 := hw4.freezeDel
      have hC12 := hw4.cxDel hC10 (fun _ e => e.elim) hO
      have hl12 := Le.del w10 M4 v16
      have lz5 := (((hl4.trans hl5).trans hl10).trans hl12)
      exact ew_nxt (y3, (W (k1 + 1))) hb4 fun a ha => ⟨(Del v16 M4), v16, (ha.sub ⟨Z, Z, Z, Z, trivial⟩), lz5, hC12, hw6⟩
   ·
    obtain rfl := hbb1.trans hc2
    exact Zu Z (cw_exit (ew_thenX (ew_thenX (ew_blockX (ew_brk (y1, k1) hb4 fun a ha => ⟨M1, v4, (ha.sub ⟨Z, Z, Z, Z, trivial⟩), hl4, hC4, hw2⟩)))))
  ·
   rintro ⟨y4, k4⟩ a w11 hlr4 ⟨M5, v18, hF4, hl13, hC13, hw7⟩
   subst hlr4
   refine ew_at (E := [(6, v18), (18, v1p), (19, (.int .i64 (a_region.length : Int))), (20, (.int .i64 k4))]) hF4 (Ze (cw_seq (Zr (Zo Z Z Z (Zm Z Z (Zo Z Z Z (Za Z Z (Zo Z Z Z (Za Z Z (Zn (Ze (Zy ?_))))))))))))
   obtain rfl := sj h
   exact ew_ret (res2 Z (.tmp Z) (.tmp Z)) ⟨_, Z, ⟨_, _, Z, (VRep.mono hC13.back hw7), ((vbool _))⟩, hC13.bx⟩

theorem w_impl_RegionLess {w : World} {M : Nat → Prop} (hG : ARep (RArr 4 RShape) w M shapes ⟨0, 0, none⟩) (hO : ∀ b, M b → b < w.heap.size) {v0p : Value} {a_b : Box} (h0 : VRep RBox w M a_b v0p) {v1p : Value} {a_list : List Box} (h1 : VRep (RSlice RBox) w M a_list v1p) {r : (List Box) × Bool} (h : F.impl_RegionLess a_b a_list = some r) :
  Calls Tryd.prog 20 [v0p, v1p].toArray w fun e w' => ∃ v, e = .returned v ∧ (∃ u0 u1, v = .tuple #[u0, u1] ∧ VRep (RSlice RBox) w' M r.1 u0 ∧ VRep RBool w' M r.2 u1) ∧ BX No w w' := by
 obtain ⟨i61, hi61, hz61, hs61, hy61⟩ := info61
 have hC : Cx No w M w M := Cx.start hO (fun _ e => e.elim)
 refine walk (N := 45) Tryd.func20 Z Tryd.ntmps20 Z (cw_seq (Zr (Zo Z Z Z (ow_box (R := RBox) Z Z h0 hC fun p1 w1 hp1 hb1 hl1 hC1 => Zo Z Z Z (Za Z Z (Zo Z Z Z (Za Z Z (Zn (Ze (cw_seq (cw_seq (Zr (Zo Z Z Z (Zl (R := RBox) Z Z hp1 (Tryd.sizeOf25 _) (Tryd.isAgg25 _) fun v1 hv1 => ?_))))))))))))))
 replace h := bind_some h
 obtain ⟨x1, hx1, h⟩ := h
 refine Zo Z Z Z (Zk Z Z Tryd.call31 (w_impl_BoxValid (hG.mono hl1) hC1.old hv1 hx1) fun v2 w2 hv2 => ?_)
 obtain ⟨hv2, hb2⟩ := hv2
 have hl2 := Le.no M hb2
 have hC2 := hC1.no hb2
 obtain rfl := vbool_eq hv2
 refine Zo Z Z Z (ow_not Z Z (Zo Z Z Z (Zm Z Z ?_)))
 replace h := Zc h
 rcases h with ⟨hc1, h⟩ | ⟨hc1, h⟩
 ·
  subst hc1
  refine lw_on Z Z Z Z Z Z (Zm Z Z ?_)
  replace h := bind_some h
  obtain ⟨x2, hx2, h⟩ := h
  refine lw_on Z Z Z Z Z Z (Zk Z Z Tryd.call49 (w_impl_RegionValid (hG.mono (hl1.trans hl2)) hC2.old (VRep.mono (hl1.trans hl2) h1) hx2) fun v3 w3 hv3 => ?_)
  obtain ⟨hv3, hb3⟩ := hv3
  have hl3 := Le.no M hb3
  have hC3 := hC2.no hb3
  obtain rfl := vbool_eq hv3
  refine lw_on Z Z Z Z Z Z (ow_not Z Z (Zo Z Z Z (ow_pickF Z Z Z (Zn (Ze ?_)))))
  replace h := Zc h
  rcases h with ⟨hc2, h⟩ | ⟨hc2, h⟩
  ·
   subst hc2
   refine Zu Z (cw_skip (Ze (cw_seq (Zr (Zo Z Z Z (Zm Z Z ?_))))))
   have lz1 := ((hl1.trans hl2).trans hl3)
   refine Zo Z Z Z (ow_len Z Z (VRep.mono lz1 h1) Tryd.underlying28 Z ?_)
   replace h := bind_some h
   obtain ⟨u1, hu1, h⟩ := h
   refine Zo Z Z Z (ow_make0 (α := List (List Span)) (R := (RArr 4 (RSlice RSpan))) Z Z Z Tryd.underlying57 hi61 hz61 hs61 hy61 Z Z (capF_some hu1) hC3 fun v4 w4 M1 hr1 hb4 hl4 hC4 hM1 hat1 => Zo Z Z Z (Za Z Z (Zn (Ze (cw_seq (cw_seq (Zr (Zo Z Z Z (Zm Z Z (Zo Z Z Z (ow_len Z Z (VRep.mono (lz1.trans hl4) h1) Tryd.underlying28 Z (Zo Z Z Z (Zm Z Z (Zn (Ze ?_)))))))))))))))
   replace h := bind_some h
   obtain ⟨lr1, hlr1, h⟩ := h
   refine cw_for hlr1 (fun s a w' => ∃ (M' : Nat → Prop) (v0c : Value), Fits 45 [(2, (.pointer (some p1))), (6, v0c), (22, v1p), (23, (.int .i64 (a_list.length : Int))), (24, (.int .i64 s.2))] a ∧ Le w4 M1 w' M' ∧ Cx No w M w' M' ∧ OwnRow (RArr 4 (RSlice RSpan)) w.heap.size 61 w' M' s.1 v0c) ?_ ?_ ?_
   ·
    intro a ha
    exact ⟨M1, v4, ha.sub ⟨Z, Z, Z, Z, Z, trivial⟩, Le.refl _ _, hC4, hr1⟩
   ·
    rintro ⟨y1, k1⟩ a w5 sr1 ⟨M2, v5, hF1, hl5, hC5, hw1⟩ hb5 hR1
    refine cw_at (E := [(2, (.pointer (some p1))), (6, v5), (22, v1p), (23, (.int .i64 (a_list.length : Int))), (24, (.int .i64 k1))]) hF1 (cw_seq (Zr (Zo Z Z Z (ow_lss Z Z Z fun bb1 hbb1 => Zn (Ze (cw_seq ?_))))))
    replace hb5 := Zc hb5
    rcases hb5 with ⟨hc3, hb5⟩ | ⟨hc3, hb5⟩
    ·
     obtain rfl := hbb1.trans hc3
     refine Zt Z (cw_skip (Ze (cw_seq (cw_block (cw_seq (Zr ?_))))))
     replace hb5 := bind_some hb5
     obtain ⟨x3, hx3, hb5⟩ := hb5
     have lz2 := ((lz1.trans hl4).trans hl5)
     refine Zo Z Z Z (Zx (R := RBox) Z Z Z (VRep.mono lz2 h1) Tryd.underlying28 (Tryd.sizeOf25 _) hx3 fun p2 hp2 => Zo Z Z Z (Zl (R := RBox) Z Z hp2 (Tryd.sizeOf25 _) (Tryd.isAgg25 _) fun v7 hv7 => lw_allocStore (R := RBox) Z Z Z Z Z Z Z Tryd.zeroValue25 Tryd.sizeOf25 Z Z Z (by simp) hv7 hC5 fun p3 w6 hp3 hb6 hl6 hC6 => ?_))
     have hr2 := hw1.no hb6
     refine Zn (Ze (Zr (Zo Z Z Z (Zm Z Z (Zo Z Z Z (Zl (R := RBox) Z Z hp3 (Tryd.sizeOf25 _) (Tryd.isAgg25 _) fun v8 hv8 => ?_))))))
     replace hb5 := bind_some hb5
     obtain ⟨x4, hx4, hb5⟩ := hb5
     refine Zo Z Z Z (Zk Z Z Tryd.call32 (w_impl_sidesOf (hG.mono (lz2.trans hl6)) hC6.old hv8 hx4) fun v9 w7 hv9 => ?_)
     obtain ⟨hv9, hb7⟩ := hv9
     have hl7 := Le.no M2 hb7
     have hC7 := hC6.no hb7
     have hr3 := hr2.no hb7
     obtain ⟨cc1, cc2, cc3, cc4, rfl⟩ := open_arr4 hv9 rfl
     refine Zo Z Z Z (ow_buildSlice (R := (RArr 4 (RSlice RSpan))) (xs := [x4]) (cs := #[cc1, cc2, cc3, cc4]) (e := 61) Z Z (by kernel_rfl) Z Z ⟨_, _, Z, hv9.cells, Z⟩ hC7 fun p4 w8 hw2 hb8 hl8 hC8 => ?_)
     have hr4 := hr3.no hb8
     replace hb5 := bind_some hb5
     obtain ⟨z1, hz1, hb5⟩ := hb5
     refine Zo Z Z Z (ow_append (R := (RArr 4 (RSlice RSpan))) Z Z Z Z Tryd.underlying57 hi61 hz61 hs61 hy61 Z Z Z Z hr4 hw2 hz1 hC8 fun v10 w9 M3 hr5 hb9 hl9 hC9 hM2 hat2 => Zo Z Z Z (Za Z Z (Zn (ew_blockN (Ze (Zr (Zo Z Z Z (ow_add Z Z Z (Zo Z Z Z (Zm Z Z (Zn ?_)))))))))))
     have lz3 := ((((hl5.trans hl6).trans hl7).trans hl8).trans hl9)
     exact ew_nxt (z1, (W (k1 + 1))) hb5 fun a ha => ⟨M3, v10, (ha.sub ⟨Z, Z, Z, Z, Z, trivial⟩), lz3, hC9, hr5⟩
    ·
     obtain rfl := hbb1.trans hc3
     exact Zu Z (cw_exit (ew_thenX (ew_thenX (ew_blockX (ew_brk (y1, k1) hb5 fun a ha => ⟨M2, v5, (ha.sub ⟨Z, Z, Z, Z, Z, trivial⟩), hl5, hC5, hw1⟩)))))
   ·
    rintro ⟨y2, k2⟩ a w10 hlr2 ⟨M4, v11, hF2, hl10, hC10, hw3⟩
    subst hlr2
    refine ew_at (E := [(2, (.pointer (some p1))), (6, v11), (22, v1p), (23, (.int .i64 (a_list.length : Int))), (24, (.int .i64 k2))]) hF2 (Ze (cw_seq (Zr ?_)))
    have lz4 := (((hl2.trans hl3).trans hl4).trans hl10)
    refine Zo Z Z Z (Zl (R := RBox) Z Z (ARep.mono lz4 hp1) (Tryd.sizeOf25 _) (Tryd.isAgg25 _) fun v13 hv13 => ?_)
    replace h := bind_some h
    obtain ⟨x5, hx5, h⟩ := h
    have lz5 := ((lz1.trans hl4).trans hl10)
    refine Zo Z Z Z (Zk Z Z Tryd.call32 (w_impl_sidesOf (hG.mono lz5) hC10.old hv13 hx5) fun v14 w11 hv14 => ?_)
    obtain ⟨hv14, hb10⟩ := hv14
    have hl11 := Le.no M4 hb10
    have hC11 := hC10.no hb10
    have hr6 := hw3.no hb10
    refine Zo Z Z Z (Zm Z Z ?_)
    have hw4 := hr6.freezeDel
    have hC12 := hr6.cxDel hC11 (fun _ e => e.elim) hO
    have hl12 := Le.del w11 M4 v11
    replace h := bind_some h
    obtain ⟨x6, hx6, h⟩ := h
    have lz6 := ((lz5.trans hl11).trans hl12)
    refine Zo Z Z Z (Zk Z Z Tryd.call50 (w_impl_sides_lessRegion (hG.mono lz6) hC12.old (VRep.mono hl12 hv14) hw4 hx6) fun v15 w12 hv15 => ?_)
    obtain ⟨⟨v16, v17, rfl, hv16, hv17⟩, hb11⟩ := hv15
    have hl13 := Le.no (Del v11 M4) hb11
    have hC13 := hC12.no hb11
    obtain ⟨bb2, hbb2, rfl⟩ := vbool_ex hv17
    refine Zo Z Z Z (Zm Z Z (Zo Z Z Z (ow_extract Z Z Z (Zo Z Z Z (ow_extract Z Z Z (Zo Z Z Z (Za Z Z (Zo Z Z Z (Za Z Z (Zn (Ze (cw_seq (cw_seq (Zr (Zo Z Z Z (Zm Z Z (Zo Z Z Z (ow_not Z Z (Zn (Ze ?_))))))))))))))))))))
    replace h := Zc h
    rcases h with ⟨hc4, h⟩ | ⟨hc4, h⟩
    ·
     obtain rfl := hbb2.trans hc4
     refine Zu Z (cw_skip (Ze (cw_seq (Zr (Zo Z Z Z (Zm Z Z ?_))))))
     replace h := bind_some h
     obtain ⟨x7, hx7, h⟩ := h
     refine Zo Z Z Z (Zk Z Z Tryd.call34 (w_impl_boxesOf (hG.mono (lz6.trans hl13)) hC13.old hv16 hx7) fun v18 w13 hv18 => ?_)
     obtain ⟨hv18, hb12⟩ := hv18
     have hC14 := hC13.no hb12
     refine Zo Z Z Z (Za Z Z (Zo Z Z Z (Za Z Z (Zn (Ze (Zy ?_))))))
     obtain rfl := sj h
     exact ew_ret (res2 Z (.tmp Z) (.tmp Z)) ⟨_, Z, ⟨_, _, Z, (VRep.mono hC14.back hv18), ((vbool _))⟩, hC14.bx⟩
    ·
     obtain rfl := hbb2.trans hc4
     refine Zt Z (cw_seq (Zr (Zo Z Z Z (Za Z Z (Zo Z Z Z (Za Z Z (Zn (Ze (Zy (Zh ?_))))))))))
     obtain rfl := sj h
     exact ew_ret (res2 Z (.tmp Z) (.tmp Z)) ⟨_, Z, ⟨_, _, Z, (VRep.mono hC13.back (vslice_nil (R := RBox) (w := w12) (M := (Del v11 M4)))), ((vbool _))⟩, hC13.bx⟩
  ·
   subst hc2
   refine Zt Z (cw_seq (Zr (Zo Z Z Z (Za Z Z (Zo Z Z Z (Za Z Z (Zn (Ze (Zy (Zh ?_))))))))))
   obtain rfl := sj h
   exact ew_ret (res2 Z (.tmp Z) (.tmp Z)) ⟨_, Z, ⟨_, _, Z, (VRep.mono hC3.back (vslice_nil (R := RBox) (w := w3) (M := M))), ((vbool _))⟩, hC3.bx⟩
 ·
  subst hc1
  refine lw_off Z Z Z Z Z Z (lw_off Z Z Z Z Z Z (lw_off Z Z Z Z Z Z (Zo Z Z Z (ow_pickT Z Z Z (Zn (Ze (Zt Z (cw_seq (Zr (Zo Z Z Z (Za Z Z (Zo Z Z Z (Za Z Z (Zn (Ze (Zy (Zh ?_)))))))))))))))))
  obtain rfl := sj h
  exact ew_ret (res2 Z (.tmp Z) (.tmp Z)) ⟨_, Z, ⟨_, _, Z, (VRep.mono hC2.back (vslice_nil (R := RBox) (w := w2) (M := M))), ((vbool _))⟩, hC2.bx⟩


end Go.PF
