/- The walks; no condition. -/
import Derived.Test.YtadlmencjbangaaDoorProg
import Derived.Test.YtadlmencjbangaaDoorWk2
import Derived.Test.YtadlmencjbangaaDoorPFSeq
set_option maxRecDepth 100000
set_option maxHeartbeats 4000000
namespace Go.PF
open Go Go.RowKit Go.Proofs

theorem w_spec_l20Two {w : World} {M : Nat → Prop} (hG : ARep (RArr 4 RShape) w M shapes ⟨0, 0, none⟩) (hO : ∀ b, M b → b < w.heap.size) {g : Nat} {Ax : Option Addr} {cx : Nat} {a_xs : List Int} {a_pos : Int} (hxs : VRep (RSlice RU8) w M a_xs (.slice Ax a_xs.length cx)) (hown : Own w g 97 #[.slice Ax a_xs.length cx, .int .i64 a_pos]) (hgM : M g) {r : Box × Box × Int} (h : F.spec_l20Two a_xs a_pos = some r) :
  Calls Tryd.prog 29 [(.pointer (some ⟨g, 0, none⟩))].toArray w fun e w' => ∃ v, e = .returned v ∧ ((∃ u0 u1, v = .tuple #[u0, u1] ∧ VRep RBox w' M r.1 u0 ∧ VRep RBox w' M r.2.1 u1) ∧ Own w' g 97 #[.slice Ax a_xs.length cx, .int .i64 r.2.2]) ∧ BX (One g) w w' := by
 obtain ⟨i59, hi59, hz59, hs59, hy59⟩ := info59
 have hX : ∀ b, (One g) b → M b := fun b e => e ▸ hgM
 have hC : Cx (One g) w M w M := Cx.start hO hX
 refine walk (N := 44) Tryd.func29 Z Tryd.ntmps29 Z (cw_seq (Zr (Zo Z Z Z (ow_alloc Z (Tryd.zeroValue25 _) hC fun g1 w1 hg1 hg2 ho1 hb1 hl1 hC1 => ?_))))
 have hn1 := Nat.ne_of_lt (Nat.lt_of_lt_of_le hown.lt hg1)
 have ho2 := hown.no hb1
 have hm1 : (Add g1 M) g := .inr hgM
 have hm2 : (Add g1 M) g1 := .inl Z
 refine Zo Z Z Z (ow_alloc Z (Tryd.zeroValue25 _) hC1 fun g2 w2 hg3 hg4 ho3 hb2 hl2 hC2 => ?_)
 have hn2 := Nat.ne_of_lt (Nat.lt_of_lt_of_le ho2.lt hg3)
 have ho4 := ho2.no hb2
 have hm3 : (Add g2 (Add g1 M)) g := .inr hm1
 have hn3 := Nat.ne_of_lt (Nat.lt_of_lt_of_le ho1.lt hg3)
 have ho5 := ho1.no hb2
 have hm4 : (Add g2 (Add g1 M)) g1 := .inr hm2
 have hm5 : (Add g2 (Add g1 M)) g2 := .inl Z
 refine Zn (Ze (cw_seq (Zr (Zo Z Z Z (Zm Z Z ?_)))))
 replace h := bind_some h
 obtain ⟨x1, hx1, h⟩ := h
 refine Zo Z Z Z (Zk Z Z Tryd.call47 (w_spec_l20Box (hG.mono (hl1.trans hl2)) hC2.old (VRep.mono (hl1.trans hl2) hxs) ho4 hm3 hx1) fun v1 w3 hv1 => ?_)
 obtain ⟨⟨hv1, ho6⟩, hb3⟩ := hv1
 have hl3 := Le.of_bx (Add g2 (Add g1 M)) hb3 (fun b e => (by rw [show b = g from e]; exact hm3))
 have hC3 := hC2.go hb3 (fun b e => Or.inr e)
 have ho7 := ho5.go hb3 (fun e => hn1 e.symm)
 have ho8 := ho3.go hb3 (fun e => hn2 e.symm)
 refine lw_allocStore (R := RBox) Z Z Z Z Z Z Z Tryd.zeroValue25 Tryd.sizeOf25 Z Z Z (by simp) hv1 hC3 fun p1 w4 hp1 hb4 hl4 hC4 => ?_
 have ho9 := ho6.no hb4
 have ho10 := ho7.no hb4
 have ho11 := ho8.no hb4
 refine Zn (Ze (cw_seq (Zr (Zo Z Z Z (Zm Z Z ?_)))))
 have lz1 := (((hl1.trans hl2).trans hl3).trans hl4)
 replace h := bind_some h
 obtain ⟨x2, hx2, h⟩ := h
 refine Zo Z Z Z (Zk Z Z Tryd.call47 (w_spec_l20Box (hG.mono lz1) hC4.old (VRep.mono lz1 hxs) ho9 hm3 hx2) fun v2 w5 hv2 => ?_)
 obtain ⟨⟨hv2, ho12⟩, hb5⟩ := hv2
 have hl5 := Le.of_bx (Add g2 (Add g1 M)) hb5 (fun b e => (by rw [show b = g from e]; exact hm3))
 have hC5 := hC4.go hb5 (fun b e => Or.inr e)
 have ho13 := ho10.go hb5 (fun e => hn1 e.symm)
 have ho14 := ho11.go hb5 (fun e => hn2 e.symm)
 refine Zo Z Z Z (ow_alloc Z (Tryd.zeroValue25 _) hC5 fun g3 w6 hg5 hg6 ho15 hb6 hl6 hC6 => ?_)
 have hn4 := Nat.ne_of_lt (Nat.lt_of_lt_of_le ho12.lt hg5)
 have ho16 := ho12.no hb6
 have hm6 : (Add g3 (Add g2 (Add g1 M))) g := .inr hm3
 have hn5 := Nat.ne_of_lt (Nat.lt_of_lt_of_le ho13.lt hg5)
 have ho17 := ho13.no hb6
 have hm7 : (Add g3 (Add g2 (Add g1 M))) g1 := .inr hm4
 have hn6 := Nat.ne_of_lt (Nat.lt_of_lt_of_le ho14.lt hg5)
 have ho18 := ho14.no hb6
 have hm8 : (Add g3 (Add g2 (Add g1 M))) g2 := .inr hm5
 have hm9 : (Add g3 (Add g2 (Add g1 M))) g3 := .inl Z
 obtain ⟨A1, c1, rfl, hw1⟩ := open_Box hv2
 refine lw_op0 Z Z (ow_store (X := (One g)) (us := [(.slice A1 x2.1.Sides.length c1)]) (cs' := #[(.slice A1 x2.1.Sides.length c1)]) Z Z Z Z ho15 (Tryd.sizeOf25 _) Z Z Z Z hm9 (.inl hg6) Z hC6 fun w7 ho19 hb7 hl7 hC7 => ?_)
 have ho20 := ho16.go hb7 (fun e => hn4 e)
 have ho21 := ho17.go hb7 (fun e => hn5 e)
 have ho22 := ho18.go hb7 (fun e => hn6 e)
 refine Zn (Ze (cw_seq (cw_seq (Zr (Zo Z Z Z (Zm Z Z ?_))))))
 have lz2 := (((lz1.trans hl5).trans hl6).trans hl7)
 replace h := bind_some h
 obtain ⟨x3, hx3, h⟩ := h
 refine Zo Z Z Z (Zk Z Z Tryd.call63 (w_spec_l20Rd_pick (hG.mono lz2) hC7.old (VRep.mono lz2 hxs) ho20 hm6 hx3) fun v3 w8 hv3 => ?_)
 obtain ⟨⟨hv3, ho23⟩, hb8⟩ := hv3
 have hl8 := Le.of_bx (Add g3 (Add g2 (Add g1 M))) hb8 (fun b e => (by rw [show b = g from e]; exact hm6))
 have hC8 := hC7.go hb8 (fun b e => Or.inr e)
 have ho24 := ho21.go hb8 (fun e => hn1 e.symm)
 have ho25 := ho22.go hb8 (fun e => hn2 e.symm)
 have ho26 := ho19.go hb8 (fun e => hn4 e.symm)
 obtain rfl := Zi hv3
 refine Zn (Ze (cw_block (cw_seq (Zr (Zo Z Z Z (ow_eqlI Z Z Z fun bb1 hbb1 => Zo Z Z Z (Za Z Z (Zn (Ze ?_)))))))))
 replace h := Zc h
 rcases h with ⟨hc1, h⟩ | ⟨hc1, h⟩
 ·
  obtain rfl := hbb1.trans hc1
  refine cw_true Z (cw_seq (Zr ?_))
  have lz3 := (((hl5.trans hl6).trans hl7).trans hl8)
  refine Zo Z Z Z (Zl (R := RBox) Z Z (ARep.mono lz3 hp1) (Tryd.sizeOf25 _) (Tryd.isAgg25 _) fun v4 hv4 => Zo Z Z Z (ow_loadOwnA Z Z Z ho26 (Tryd.isAgg25 _) (Tryd.sizeOf25 _) Z ?_))
  have lz4 := ((hl6.trans hl7).trans hl8)
  have hw2 : VRep RBox w8 (Add g3 (Add g2 (Add g1 M))) ({ Sides := x2.1.Sides } : Box) (.agg #[(.slice A1 x2.1.Sides.length c1)]) := shut_Box (VRep.mono lz4 hw1)
  replace h := bind_some h
  obtain ⟨x4, hx4, h⟩ := h
  refine Zo Z Z Z (Zk Z Z Tryd.call64 (w_spec_BoxMeet (hG.mono (lz2.trans hl8)) hC8.old hv4 hw2 hx4) fun v5 w9 hv5 => ?_)
  obtain ⟨hv5, hb9⟩ := hv5
  have hl9 := Le.no (Add g3 (Add g2 (Add g1 M))) hb9
  have hC9 := hC8.no hb9
  have ho27 := ho23.no hb9
  have ho28 := ho24.no hb9
  have ho29 := ho25.no hb9
  have ho30 := ho26.no hb9
  obtain ⟨A2, c2, rfl, hw3⟩ := open_Box hv5
  refine lw_op0 Z Z (ow_store (X := (One g)) (us := [(.slice A2 x4.Sides.length c2)]) (cs' := #[(.slice A2 x4.Sides.length c2)]) Z Z Z Z ho30 (Tryd.sizeOf25 _) Z Z Z Z hm9 (.inl hg6) Z hC9 fun w10 ho31 hb10 hl10 hC10 => ?_)
  have ho32 := ho27.go hb10 (fun e => hn4 e)
  have ho33 := ho28.go hb10 (fun e => hn5 e)
  have ho34 := ho29.go hb10 (fun e => hn6 e)
  refine Zn (Ze (cw_seq (Zr (Zo Z Z Z (Zf Z Z Tryd.underlying25 Z (Tryd.sizeOf23 _) (Zo Z Z Z (ow_loadOwn1 Z Z Z ho31 (Tryd.isAgg23 _) Z (Zo Z Z Z (ow_len Z Z (VRep.mono hl10 hw3) Tryd.underlying23 Z (Zo Z Z Z (ow_eqlI Z Z Z fun bb2 hbb2 => Zn (Ze ?_))))))))))))
  replace h := Zc h
  rcases h with ⟨hc2, h⟩ | ⟨hc2, h⟩
  ·
   obtain rfl := hbb2.trans hc2
   refine cw_true Z (Zr ?_)
   replace h := bind_some h
   obtain ⟨x5, hx5, h⟩ := h
   have lz5 := (((lz2.trans hl8).trans hl9).trans hl10)
   refine Zo Z Z Z (Zk Z Z Tryd.call65 (wo_spec_BoxAll (hG.mono lz5) hC10.old hx5) fun v6 w11 hv6 => ?_)
   obtain ⟨⟨M1, v7, rfl, hr1, hk1⟩, hb11⟩ := hv6
   replace hr1 := hr1.base hC10.bx.size
   have hl11 := hk1.le
   have hC11 := hC10.trans hk1
   have ho35 := ho32.no hb11
   have ho36 := ho33.no hb11
   have hm11 := hk1.sup _ hm7
   have ho37 := ho34.no hb11
   have hm12 := hk1.sup _ hm8
   have ho38 := ho31.no hb11
   have hm13 := hk1.sup _ hm9
   obtain ⟨A3, c3, rfl⟩ := hr1.len
   refine lw_op0 Z Z (ow_store (X := (One g)) (us := [(.slice A3 x5.Sides.length c3)]) (cs' := #[(.slice A3 x5.Sides.length c3)]) Z Z Z Z ho38 (Tryd.sizeOf25 _) Z Z Z Z hm13 (.inl hg6) Z hC11 fun w12 ho39 hb12 hl12 hC12 => ?_)
   have ho40 := ho35.go hb12 (fun e => hn4 e)
   have ho41 := ho36.go hb12 (fun e => hn5 e)
   have ho42 := ho37.go hb12 (fun e => hn6 e)
   have hr2 := hr1.go hb12 (fun k hk e => (orow_ne hr1 ho38 (by decide)) (hk.trans (congrArg some e))) hl12 (fun _ h => h)
   refine Zn (ew_blockN (Ze (cw_seq (cw_tree (by kernel_rfl) fun w13 hS1 => ?_))))
   have hl13 := Le.no M1 hS1
   have hC13 := hC12.no hS1
   have ho43 := ho40.no hS1
   have ho44 := ho41.no hS1
   have ho45 := ho42.no hS1
   have ho46 := ho39.no hS1
   have hr3 := hr2.no hS1
   refine tw_step (i := 0) (js := [1]) (by kernel_rfl) ⟨?_, ?_, Zt⟩
   ·
    have lz6 := (((((lz3.trans hl9).trans hl10).trans hl11).trans hl12).trans hl13)
    refine nd_op Z Z Z Z (Zl (R := RBox) Z Z (ARep.mono lz6 hp1) (Tryd.sizeOf25 _) (Tryd.isAgg25 _) fun v8 hv8 => tw_step (i := 1) (js := [2]) (by kernel_rfl) ⟨?_, ?_, Zt⟩)
    ·
     refine nd_op Z Z Z Z (ow_loadOwnA Z Z Z ho46 (Tryd.isAgg25 _) (Tryd.sizeOf25 _) Z ?_)
     have hw4 := hr3.freezeDel
     have hC14 := hr3.cxDel hC13 hX hO
     have hl14 := Le.del w13 M1 (.slice A3 x5.Sides.length c3)
     have hm15 : (Del (.slice A3 x5.Sides.length c3) M1) g1 := ⟨hm11, fun e => (orow_ne hr3 ho44 (by decide)) e⟩
     have hm16 : (Del (.slice A3 x5.Sides.length c3) M1) g2 := ⟨hm12, fun e => (orow_ne hr3 ho45 (by decide)) e⟩
     refine tw_step (i := 2) (js := []) (by kernel_rfl) ⟨?_, Zt⟩
     obtain ⟨A4, c4, rfl, hw6⟩ := open_Box hv8
     refine nd_op0 Z Z Z (ow_store (X := (One g)) (us := [(.slice A4 x1.1.Sides.length c4)]) (cs' := #[(.slice A4 x1.1.Sides.length c4)]) Z Z Z Z ho44 (Tryd.sizeOf25 _) Z Z Z Z hm15 (.inl hg2) Z hC14 fun w14 ho47 hb13 hl15 hC15 => ?_)
     have ho48 := ho43.go hb13 (fun e => hn1 e)
     have ho49 := ho45.go hb13 (fun e => hn3 e.symm)
     refine tw_step (i := 3) (js := []) (by kernel_rfl) ⟨(nd_op0 Z Z Z (ow_store (X := (One g)) (us := [(.slice A3 x5.Sides.length c3)]) (cs' := #[(.slice A3 x5.Sides.length c3)]) Z Z Z Z ho49 (Tryd.sizeOf25 _) Z Z Z Z hm16 (.inl hg4) Z hC15 fun w15 ho51 hb14 hl16 hC16 => ?_)), Zt⟩
     have ho52 := ho48.go hb14 (fun e => hn2 e)
     have ho53 := ho47.go hb14 (fun e => hn3 e)
     refine tw_end (by kernel_rfl) (Ze (Zy ?_))
     have lz7 := ((hl14.trans hl15).trans hl16)
     have hw7 : VRep RBox w15 (Del (.slice A3 x5.Sides.length c3) M1) ({ Sides := x1.1.Sides } : Box) (.agg #[(.slice A4 x1.1.Sides.length c4)]) := shut_Box (VRep.mono lz7 hw6)
     have hw8 : VRep RBox w15 (Del (.slice A3 x5.Sides.length c3) M1) ({ Sides := x5.Sides } : Box) (.agg #[(.slice A3 x5.Sides.length c3)]) := shut_Box (VRep.mono (hl15.trans hl16) hw4)
     obtain rfl := sj h
     exact ew_ret (res2 Z (.cell Z (own_loadVarA ho53 (Tryd.isAgg25 _) (Tryd.sizeOf25 _) Z)) (.cell Z (own_loadVarA ho51 (Tryd.isAgg25 _) (Tryd.sizeOf25 _) Z))) ⟨_, Z, ⟨⟨_, _, Z, (hw7.mono hC16.back), (hw8.mono hC16.back)⟩, ho52⟩, hC16.bx⟩
    ·
     obtain ⟨A5, c5, rfl, hw9⟩ := open_Box hv8
     refine nd_op0 Z Z Z (ow_store (X := (One g)) (us := [(.slice A5 x1.1.Sides.length c5)]) (cs' := #[(.slice A5 x1.1.Sides.length c5)]) Z Z Z Z ho44 (Tryd.sizeOf25 _) Z Z Z Z hm11 (.inl hg2) Z hC13 fun w16 ho55 hb15 hl17 hC17 => ?_)
     have ho56 := ho43.go hb15 (fun e => hn1 e)
     have ho57 := ho45.go hb15 (fun e => hn3 e.symm)
     have ho58 := ho46.go hb15 (fun e => hn5 e.symm)
     have hr4 := hr3.go hb15 (fun k hk e => (orow_ne hr3 ho44 (by decide)) (hk.trans (congrArg some e))) hl17 (fun _ h => h)
     refine tw_step (i := 1) (js := []) (by kernel_rfl) ⟨(nd_op Z Z Z Z (ow_loadOwnA Z Z Z ho58 (Tryd.isAgg25 _) (Tryd.sizeOf25 _) Z ?_)), Zt⟩
     have hw10 := hr4.freezeDel
     have hC18 := hr4.cxDel hC17 hX hO
     have hl18 := Le.del w16 M1 (.slice A3 x5.Sides.length c3)
     have hm20 : (Del (.slice A3 x5.Sides.length c3) M1) g2 := ⟨hm12, fun e => (orow_ne hr4 ho57 (by decide)) e⟩
     refine tw_step (i := 3) (js := []) (by kernel_rfl) ⟨(nd_op0 Z Z Z (ow_store (X := (One g)) (us := [(.slice A3 x5.Sides.length c3)]) (cs' := #[(.slice A3 x5.Sides.length c3)]) Z Z Z Z ho57 (Tryd.sizeOf25 _) Z Z Z Z hm20 (.inl hg4) Z hC18 fun w17 ho59 hb16 hl19 hC19 => ?_)), Zt⟩
     have ho60 := ho56.go hb16 (fun e => hn2 e)
     have ho61 := ho55.go hb16 (fun e => hn3 e)
     refine tw_end (by kernel_rfl) (Ze (Zy ?_))
     have lz8 := ((hl17.trans hl18).trans hl19)
     have hw12 : VRep RBox w17 (Del (.slice A3 x5.Sides.length c3) M1) ({ Sides := x1.1.Sides } : Box) (.agg #[(.slice A5 x1.1.Sides.length c5)]) := shut_Box (VRep.mono lz8 hw9)
     have hw13 : VRep RBox w17 (Del (.slice A3 x5.Sides.length c3) M1) ({ Sides := x5.Sides } : Box) (.agg #[(.slice A3 x5.Sides.length c3)]) := shut_Box (VRep.mono hl19 hw10)
     obtain rfl := sj h
     exact ew_ret (res2 Z (.cell Z (own_loadVarA ho61 (Tryd.isAgg25 _) (Tryd.sizeOf25 _) Z)) (.cell Z (own_loadVarA ho59 (Tryd.isAgg25 _) (Tryd.sizeOf25 _) Z))) ⟨_, Z, ⟨⟨_, _, Z, (hw12.mono hC19.back), (hw13.mono hC19.back)⟩, ho60⟩, hC19.bx⟩
   ·
    refine nd_op Z Z Z Z (ow_loadOwnA Z Z Z ho46 (Tryd.isAgg25 _) (Tryd.sizeOf25 _) Z ?_)
    have hw14 := hr3.freezeDel
    have hC20 := hr3.cxDel hC13 hX hO
    have hl20 := Le.del w13 M1 (.slice A3 x5.Sides.length c3)
    have hm23 : (Del (.slice A3 x5.Sides.length c3) M1) g1 := ⟨hm11, fun e => (orow_ne hr3 ho44 (by decide)) e⟩
    have hm24 : (Del (.slice A3 x5.Sides.length c3) M1) g2 := ⟨hm12, fun e => (orow_ne hr3 ho45 (by decide)) e⟩
    refine tw_step (i := 0) (js := []) (by kernel_rfl) ⟨?_, Zt⟩
    have lz9 := ((((((lz3.trans hl9).trans hl10).trans hl11).trans hl12).trans hl13).trans hl20)
    refine nd_op Z Z Z Z (Zl (R := RBox) Z Z (ARep.mono lz9 hp1) (Tryd.sizeOf25 _) (Tryd.isAgg25 _) fun v9 hv9 => tw_step (i := 2) (js := []) (by kernel_rfl) ⟨?_, Zt⟩)
    obtain ⟨A6, c6, rfl, hw16⟩ := open_Box hv9
    refine nd_op0 Z Z Z (ow_store (X := (One g)) (us := [(.slice A6 x1.1.Sides.length c6)]) (cs' := #[(.slice A6 x1.1.Sides.length c6)]) Z Z Z Z ho44 (Tryd.sizeOf25 _) Z Z Z Z hm23 (.inl hg2) Z hC20 fun w18 ho63 hb17 hl21 hC21 => ?_)
    have ho64 := ho43.go hb17 (fun e => hn1 e)
    have ho65 := ho45.go hb17 (fun e => hn3 e.symm)
    refine tw_step (i := 3) (js := []) (by kernel_rfl) ⟨(nd_op0 Z Z Z (ow_store (X := (One g)) (us := [(.slice A3 x5.Sides.length c3)]) (cs' := #[(.slice A3 x5.Sides.length c3)]) Z Z Z Z ho65 (Tryd.sizeOf25 _) Z Z Z Z hm24 (.inl hg4) Z hC21 fun w19 ho67 hb18 hl22 hC22 => ?_)), Zt⟩
    have ho68 := ho64.go hb18 (fun e => hn2 e)
    have ho69 := ho63.go hb18 (fun e => hn3 e)
    refine tw_end (by kernel_rfl) (Ze (Zy ?_))
    have hw17 : VRep RBox w19 (Del (.slice A3 x5.Sides.length c3) M1) ({ Sides := x1.1.Sides } : Box) (.agg #[(.slice A6 x1.1.Sides.length c6)]) := shut_Box (VRep.mono (hl21.trans hl22) hw16)
    have hw18 : VRep RBox w19 (Del (.slice A3 x5.Sides.length c3) M1) ({ Sides := x5.Sides } : Box) (.agg #[(.slice A3 x5.Sides.length c3)]) := shut_Box (VRep.mono (hl21.trans hl22) hw14)
    obtain rfl := sj h
    exact ew_ret (res2 Z (.cell Z (own_loadVarA ho69 (Tryd.isAgg25 _) (Tryd.sizeOf25 _) Z)) (.cell Z (own_loadVarA ho67 (Tryd.isAgg25 _) (Tryd.sizeOf25 _) Z))) ⟨_, Z, ⟨⟨_, _, Z, (hw17.mono hC22.back), (hw18.mono hC22.back)⟩, ho68⟩, hC22.bx⟩
  ·
   obtain rfl := hbb2.trans hc2
   refine Zu Z (cw_skip (ew_blockN (Ze (cw_seq (cw_tree (by kernel_rfl) fun w20 hS2 => ?_)))))
   have hl23 := Le.no (Add g3 (Add g2 (Add g1 M))) hS2
   have hC23 := hC10.no hS2
   have ho71 := ho32.no hS2
   have ho72 := ho33.no hS2
   have ho73 := ho34.no hS2
   have ho74 := ho31.no hS2
   refine tw_step (i := 0) (js := [1]) (by kernel_rfl) ⟨?_, ?_, Zt⟩
   ·
    have lz10 := (((lz3.trans hl9).trans hl10).trans hl23)
    refine nd_op Z Z Z Z (Zl (R := RBox) Z Z (ARep.mono lz10 hp1) (Tryd.sizeOf25 _) (Tryd.isAgg25 _) fun v10 hv10 => tw_step (i := 1) (js := [2]) (by kernel_rfl) ⟨?_, ?_, Zt⟩)
    ·
     refine nd_op Z Z Z Z (ow_loadOwnA Z Z Z ho74 (Tryd.isAgg25 _) (Tryd.sizeOf25 _) Z (tw_step (i := 2) (js := []) (by kernel_rfl) ⟨?_, Zt⟩))
     obtain ⟨A7, c7, rfl, hw20⟩ := open_Box hv10
     refine nd_op0 Z Z Z (ow_store (X := (One g)) (us := [(.slice A7 x1.1.Sides.length c7)]) (cs' := #[(.slice A7 x1.1.Sides.length c7)]) Z Z Z Z ho72 (Tryd.sizeOf25 _) Z Z Z Z hm7 (.inl hg2) Z hC23 fun w21 ho75 hb19 hl24 hC24 => ?_)
     have ho76 := ho71.go hb19 (fun e => hn1 e)
     have ho77 := ho73.go hb19 (fun e => hn3 e.symm)
     refine tw_step (i := 3) (js := []) (by kernel_rfl) ⟨(nd_op0 Z Z Z (ow_store (X := (One g)) (us := [(.slice A2 x4.Sides.length c2)]) (cs' := #[(.slice A2 x4.Sides.length c2)]) Z Z Z Z ho77 (Tryd.sizeOf25 _) Z Z Z Z hm8 (.inl hg4) Z hC24 fun w22 ho79 hb20 hl25 hC25 => ?_)), Zt⟩
     have ho80 := ho76.go hb20 (fun e => hn2 e)
     have ho81 := ho75.go hb20 (fun e => hn3 e)
     refine tw_end (by kernel_rfl) (Ze (Zy ?_))
     have hw21 : VRep RBox w22 (Add g3 (Add g2 (Add g1 M))) ({ Sides := x1.1.Sides } : Box) (.agg #[(.slice A7 x1.1.Sides.length c7)]) := shut_Box (VRep.mono (hl24.trans hl25) hw20)
     have lz11 := (((hl10.trans hl23).trans hl24).trans hl25)
     have hw22 : VRep RBox w22 (Add g3 (Add g2 (Add g1 M))) ({ Sides := x4.Sides } : Box) (.agg #[(.slice A2 x4.Sides.length c2)]) := shut_Box (VRep.mono lz11 hw3)
     obtain rfl := sj h
     exact ew_ret (res2 Z (.cell Z (own_loadVarA ho81 (Tryd.isAgg25 _) (Tryd.sizeOf25 _) Z)) (.cell Z (own_loadVarA ho79 (Tryd.isAgg25 _) (Tryd.sizeOf25 _) Z))) ⟨_, Z, ⟨⟨_, _, Z, (hw21.mono hC25.back), (hw22.mono hC25.back)⟩, ho80⟩, hC25.bx⟩
    ·
     obtain ⟨A8, c8, rfl, hw23⟩ := open_Box hv10
     refine nd_op0 Z Z Z (ow_store (X := (One g)) (us := [(.slice A8 x1.1.Sides.length c8)]) (cs' := #[(.slice A8 x1.1.Sides.length c8)]) Z Z Z Z ho72 (Tryd.sizeOf25 _) Z Z Z Z hm7 (.inl hg2) Z hC23 fun w23 ho83 hb21 hl26 hC26 => ?_)
     have ho84 := ho71.go hb21 (fun e => hn1 e)
     have ho85 := ho73.go hb21 (fun e => hn3 e.symm)
     have ho86 := ho74.go hb21 (fun e => hn5 e.symm)
     refine tw_step (i := 1) (js := []) (by kernel_rfl) ⟨(nd_op Z Z Z Z (ow_loadOwnA Z Z Z ho86 (Tryd.isAgg25 _) (Tryd.sizeOf25 _) Z ?_)), Zt⟩
     have lz12 := ((hl10.trans hl23).trans hl26)
     refine tw_step (i := 3) (js := []) (by kernel_rfl) ⟨(nd_op0 Z Z Z (ow_store (X := (One g)) (us := [(.slice A2 x4.Sides.length c2)]) (cs' := #[(.slice A2 x4.Sides.length c2)]) Z Z Z Z ho85 (Tryd.sizeOf25 _) Z Z Z Z hm8 (.inl hg4) Z hC26 fun w24 ho87 hb22 hl27 hC27 => ?_)), Zt⟩
     have ho88 := ho84.go hb22 (fun e => hn2 e)
     have ho89 := ho83.go hb22 (fun e => hn3 e)
     refine tw_end (by kernel_rfl) (Ze (Zy ?_))
     have hw25 : VRep RBox w24 (Add g3 (Add g2 (Add g1 M))) ({ Sides := x1.1.Sides } : Box) (.agg #[(.slice A8 x1.1.Sides.length c8)]) := shut_Box (VRep.mono (hl26.trans hl27) hw23)
     have hw26 : VRep RBox w24 (Add g3 (Add g2 (Add g1 M))) ({ Sides := x4.Sides } : Box) (.agg #[(.slice A2 x4.Sides.length c2)]) := shut_Box (VRep.mono (lz12.trans hl27) hw3)
     obtain rfl := sj h
     exact ew_ret (res2 Z (.cell Z (own_loadVarA ho89 (Tryd.isAgg25 _) (Tryd.sizeOf25 _) Z)) (.cell Z (own_loadVarA ho87 (Tryd.isAgg25 _) (Tryd.sizeOf25 _) Z))) ⟨_, Z, ⟨⟨_, _, Z, (hw25.mono hC27.back), (hw26.mono hC27.back)⟩, ho88⟩, hC27.bx⟩
   ·
    refine nd_op Z Z Z Z (ow_loadOwnA Z Z Z ho74 (Tryd.isAgg25 _) (Tryd.sizeOf25 _) Z (tw_step (i := 0) (js := []) (by kernel_rfl) ⟨?_, Zt⟩))
    have lz13 := (((lz3.trans hl9).trans hl10).trans hl23)
    refine nd_op Z Z Z Z (Zl (R := RBox) Z Z (ARep.mono lz13 hp1) (Tryd.sizeOf25 _) (Tryd.isAgg25 _) fun v11 hv11 => tw_step (i := 2) (js := []) (by kernel_rfl) ⟨?_, Zt⟩)
    obtain ⟨A9, c9, rfl, hw28⟩ := open_Box hv11
    refine nd_op0 Z Z Z (ow_store (X := (One g)) (us := [(.slice A9 x1.1.Sides.length c9)]) (cs' := #[(.slice A9 x1.1.Sides.length c9)]) Z Z Z Z ho72 (Tryd.sizeOf25 _) Z Z Z Z hm7 (.inl hg2) Z hC23 fun w25 ho91 hb23 hl28 hC28 => ?_)
    have ho92 := ho71.go hb23 (fun e => hn1 e)
    have ho93 := ho73.go hb23 (fun e => hn3 e.symm)
    refine tw_step (i := 3) (js := []) (by kernel_rfl) ⟨(nd_op0 Z Z Z (ow_store (X := (One g)) (us := [(.slice A2 x4.Sides.length c2)]) (cs' := #[(.slice A2 x4.Sides.length c2)]) Z Z Z Z ho93 (Tryd.sizeOf25 _) Z Z Z Z hm8 (.inl hg4) Z hC28 fun w26 ho95 hb24 hl29 hC29 => ?_)), Zt⟩
    have ho96 := ho92.go hb24 (fun e => hn2 e)
    have ho97 := ho91.go hb24 (fun e => hn3 e)
    refine tw_end (by kernel_rfl) (Ze (Zy ?_))
    have hw29 : VRep RBox w26 (Add g3 (Add g2 (Add g1 M))) ({ Sides := x1.1.Sides } : Box) (.agg #[(.slice A9 x1.1.Sides.length c9)]) := shut_Box (VRep.mono (hl28.trans hl29) hw28)
    have lz14 := (((hl10.trans hl23).trans hl28).trans hl29)
    have hw30 : VRep RBox w26 (Add g3 (Add g2 (Add g1 M))) ({ Sides := x4.Sides } : Box) (.agg #[(.slice A2 x4.Sides.length c2)]) := shut_Box (VRep.mono lz14 hw3)
    obtain rfl := sj h
    exact ew_ret (res2 Z (.cell Z (own_loadVarA ho97 (Tryd.isAgg25 _) (Tryd.sizeOf25 _) Z)) (.cell Z (own_loadVarA ho95 (Tryd.isAgg25 _) (Tryd.sizeOf25 _) Z))) ⟨_, Z, ⟨⟨_, _, Z, (hw29.mono hC29.back), (hw30.mono hC29.back)⟩, ho96⟩, hC29.bx⟩
 ·
  obtain rfl := hbb1.trans hc1
  refine Zu Z (cw_seq (Zr (Zo Z Z Z (ow_eqlI Z Z Z fun bb3 hbb3 => Zo Z Z Z (Za Z Z (Zn (Ze ?_)))))))
  replace h := Zc h
  rcases h with ⟨hc3, h⟩ | ⟨hc3, h⟩
  ·
   obtain rfl := hbb3.trans hc3
   refine cw_true Z (cw_seq (Zr ?_))
   have lz15 := (((hl5.trans hl6).trans hl7).trans hl8)
   refine Zo Z Z Z (Zl (R := RBox) Z Z (ARep.mono lz15 hp1) (Tryd.sizeOf25 _) (Tryd.isAgg25 _) fun v12 hv12 => ?_)
   replace h := bind_some h
   obtain ⟨x6, hx6, h⟩ := h
   refine Zo Z Z Z (Zk Z Z Tryd.call12 (w_spec_BoxValid (hG.mono (lz2.trans hl8)) hC8.old hv12 hx6) fun v13 w27 hv13 => ?_)
   obtain ⟨hv13, hb25⟩ := hv13
   have hl30 := Le.no (Add g3 (Add g2 (Add g1 M))) hb25
   have hC30 := hC8.no hb25
   have ho99 := ho23.no hb25
   have ho100 := ho24.no hb25
   have ho101 := ho25.no hb25
   have ho102 := ho26.no hb25
   obtain rfl := vbool_eq hv13
   refine Zn (Ze ?_)
   replace h := Zc h
   rcases h with ⟨hc4, h⟩ | ⟨hc4, h⟩
   ·
    subst hc4
    refine cw_true Z (cw_seq (Zr (Zo Z Z Z (Zm Z Z ?_))))
    have lz16 := ((lz2.trans hl8).trans hl30)
    replace h := bind_some h
    obtain ⟨x7, hx7, h⟩ := h
    refine Zo Z Z Z (Zk Z Z Tryd.call63 (w_spec_l20Rd_pick (hG.mono lz16) hC30.old (VRep.mono lz16 hxs) ho99 hm6 hx7) fun v14 w28 hv14 => ?_)
    obtain ⟨⟨hv14, ho103⟩, hb26⟩ := hv14
    have hl31 := Le.of_bx (Add g3 (Add g2 (Add g1 M))) hb26 (fun b e => (by rw [show b = g from e]; exact hm6))
    have hC31 := hC30.go hb26 (fun b e => Or.inr e)
    have ho104 := ho100.go hb26 (fun e => hn1 e.symm)
    have ho105 := ho101.go hb26 (fun e => hn2 e.symm)
    have ho106 := ho102.go hb26 (fun e => hn4 e.symm)
    obtain rfl := Zi hv14
    refine Zo Z Z Z (Za Z Z (Zn (Ze (cw_seq (Zr (Zo Z Z Z (ow_buildSlice0 (R := (RSlice RSpan)) (e := 59) Z (by kernel_rfl) hC31 fun p2 w29 M2 hr5 hb27 hl32 hC32 hM1 hat1 => ?_)))))))
    have ho107 := ho103.no hb27
    have hm26 := hM1 _ hm6
    have ho108 := ho104.no hb27
    have hm27 := hM1 _ hm7
    have ho109 := ho105.no hb27
    have hm28 := hM1 _ hm8
    have ho110 := ho106.no hb27
    have hm29 := hM1 _ hm9
    refine Zo Z Z Z (Zf Z Z Tryd.underlying25 Z (Tryd.sizeOf23 _) ?_)
    have lz17 := (((lz15.trans hl30).trans hl31).trans hl32)
    refine Zo Z Z Z (Zl (R := (RSlice (RSlice RSpan))) Z Z (ARep.mono lz17 (hp1.fld fld_Box_Sides)) (Tryd.sizeOf23 _) (Tryd.isAgg23 _) fun v15 hv15 => ?_)
    replace h := bind_some h
    obtain ⟨z1, hz1, h⟩ := h
    refine Zo Z Z Z (ow_append (R := (RSlice RSpan)) Z Z Z Z Tryd.underlying23 hi59 hz59 hs59 hy59 Z Z Z Z hr5 hv15 hz1 hC32 fun v16 w30 M3 hr6 hb28 hl33 hC33 hM2 hat2 => ?_)
    have ho111 := ho107.go hb28 (fun e => (orow_ne hr5 ho107 (by decide)) e)
    have hm30 := hM2 _ hm26
    have ho112 := ho108.go hb28 (fun e => (orow_ne hr5 ho108 (by decide)) e)
    have hm31 := hM2 _ hm27
    have ho113 := ho109.go hb28 (fun e => (orow_ne hr5 ho109 (by decide)) e)
    have hm32 := hM2 _ hm28
    have ho114 := ho110.go hb28 (fun e => (orow_ne hr5 ho110 (by decide)) e)
    have hm33 := hM2 _ hm29
    obtain ⟨A10, c10, rfl⟩ := hr6.len
    refine Zo Z Z Z (ow_build (v := .agg #[(.slice A10 z1.length c10)]) Z Z (by kernel_rfl) (lw_op0 Z Z (ow_store (X := (One g)) (us := [(.slice A10 z1.length c10)]) (cs' := #[(.slice A10 z1.length c10)]) Z Z Z Z ho114 (Tryd.sizeOf25 _) Z Z Z Z hm33 (.inl hg6) Z hC33 fun w31 ho115 hb29 hl34 hC34 => ?_)))
    have ho116 := ho111.go hb29 (fun e => hn4 e)
    have ho117 := ho112.go hb29 (fun e => hn5 e)
    have ho118 := ho113.go hb29 (fun e => hn6 e)
    have hr7 := hr6.go hb29 (fun k hk e => (orow_ne hr6 ho114 (by decide)) (hk.trans (congrArg some e))) hl34 (fun _ h => h)
    refine Zn (Ze ?_)
    replace h := bind_some h
    obtain ⟨x8, hx8, h⟩ := h
    replace h := bind_some h
    obtain ⟨x9, hx9, h⟩ := h
    have lz18 := ((((lz16.trans hl31).trans hl32).trans hl33).trans hl34)
    have lz20 := ((lz17.trans hl33).trans hl34)
    refine cw_sub (E' := [(0, (Zw g 0)), (2, (Zw g1 0)), (3, (Zw g2 0)), (4, (.pointer (some p1))), (5, (Zw g3 0)), (6, (Zv x7.1))]) ⟨Z, Z, Z, Z, Z, Z, Zt⟩ (cw_drawC (g := g) (T := 97) 7 1 [none, none, none, none, none, none, some 0] [#[(.slice Ax a_xs.length cx), (Zv x7.2)], #[(.slice Ax a_xs.length cx), (Zv x9.2)]] [PEq (Zw g3 0), PEq (.slice A10 z1.length c10), PEq (Zv x7.1), PEq (Zw g 0), PEq (Zv x7.1), PEq (Zv x8), PV (RSlice RSpan) M3 x9.1] (by kernel_rfl) Z (by kernel_rfl) (by kernel_rfl) ho116 ⟨(PEq.monoY hm30 _), (PEq.monoY hm30 _), (PEq.monoY hm30 _), (PEq.monoY hm30 _), (PEq.monoY hm30 _), (PEq.monoY hm30 _), (PV.monoY hm30 _ _), Zt⟩ ⟨?_, ?_, ?_, ?_, ?_, ?_, ?_, Zt⟩ ?_)
    · exact fun w34 D hS3 hd1 => Zs (E' := [(5, (Zw g3 0))]) ⟨Z, Zt⟩ (Zp Z (Zf Z Z Tryd.underlying25 Z (Tryd.sizeOf23 _) Zb))
    ·
     intro w35 D hS4 hd2
     have ho132 := ho115.go hS4 (fun e => hn4 e.symm)
     exact Zs (E' := [(34, (Zw g3 0))]) ⟨dpE hd2 0 Z Z, Zt⟩ (Zp Z (ow_loadOwn1 Z Z Z ho132 (Tryd.isAgg23 _) Z Zb))
    · exact fun w36 D hS5 hd3 => Zs (E' := [(6, (Zv x7.1))]) ⟨Z, Zt⟩ (Zp Z (Zm Z Z Zb))
    · exact fun w37 D hS6 hd4 => Zs (E' := [(0, (Zw g 0))]) ⟨Z, Zt⟩ (Zp Z (Zm Z Z Zb))
    · exact fun w38 D hS7 hd5 => Zs (E' := [(6, (Zv x7.1))]) ⟨Z, Zt⟩ (Zp Z (Zm Z Z Zb))
    ·
     intro w39 D hS8 hd6
     have hl42 := leY hm30 hS8
     have hC42 := hC34.go hS8 (fun b e => Or.inr e)
     refine Zs (E' := [(38, (Zv x7.1))]) ⟨dpE hd6 4 Z Z, Zt⟩ (Zp Z (Zk Z Z Tryd.call39 (w_spec_FieldTop (hG.mono (lz18.trans hl42)) hC42.old hx8) fun v19 w40 hv19 => ?_))
     obtain ⟨hv19, hb32⟩ := hv19
     obtain rfl := Zi hv19
     exact ⟨hb32, Z⟩
    ·
     intro w41 D hS9 hd7
     obtain ⟨hS9, ho148⟩ := hS9
     have ho148 : Own w41 g 97 #[(.slice Ax a_xs.length cx), (Zv x7.2)] := ho148
     have hl44 := leY hm30 hS9
     have hC44 := hC34.go hS9 (fun b e => Or.inr e)
     refine Zs (E' := [(37, (Zw g 0)), (39, (Zv x8))]) ⟨dpE hd7 3 Z Z, dpE hd7 5 Z Z, Zt⟩ (Zp Z (Zk Z Z Tryd.call66 (w_spec_l20Set (hG.mono (lz18.trans hl44)) hC44.old (VRep.mono (lz18.trans hl44) hxs) ho148 hm30 hx9) fun v20 w42 hv20 => ?_))
     obtain ⟨⟨hv20, ho152⟩, hb33⟩ := hv20
     exact ⟨⟨⟨hS9.trans hb33, ho152⟩, hb33⟩, hv20⟩
    ·
     intro w43 D hS10 hd8
     have d12 : PV (RSlice RSpan) M3 x9.1 (D 6) w43 := dpA hd8 6 Z
     obtain ⟨hS10, ho156⟩ := hS10
     have ho156 : Own w43 g 97 #[(.slice Ax a_xs.length cx), (Zv x9.2)] := ho156
     have hl46 := leY hm30 hS10
     have hC46 := hC34.go hS10 (fun b e => Or.inr e)
     have ho157 := ho117.go hS10 (fun e => hn1 e.symm)
     have ho158 := ho118.go hS10 (fun e => hn2 e.symm)
     have ho159 := ho115.go hS10 (fun e => hn4 e.symm)
     have hr19 := hr7.go hS10 (fun k hk e => (orow_ne hr7 ho116 (by decide)) (hk.trans (congrArg some e))) hl46 (fun _ h => h)
     generalize hq1 : (D 6) = v21 at d12
     refine lw_sub (E' := [(35, (.slice A10 z1.length c10)), (36, (Zv x7.1)), (40, v21), (0, (Zw g 0)), (2, (Zw g1 0)), (3, (Zw g2 0)), (4, (.pointer (some p1))), (5, (Zw g3 0)), (6, (Zv x7.1))]) ⟨dpE hd8 1 Z Z, dpE hd8 2 Z Z, congrArg some hq1, Z, Z, Z, Z, Z, Z, Zt⟩ ?_
     replace h := bind_some h
     obtain ⟨x10, hx10, h⟩ := h
     refine Zo Z Z Z (ow_indexRow (R := (RSlice RSpan)) Z Z Z hr19 Tryd.underlying23 (Tryd.sizeOf59 _) hx10 (lw_op0 Z Z (ow_storeElRow (X := (One g)) (R := (RSlice RSpan)) (S := (RSlice RSpan)) Z Z Z Z hr19 (orow_blk hr19 hx10) hx10 (FldSet.whole (RSlice RSpan)) (Tryd.sizeOf59 _) d12 (Nat.le_refl _) hC46 fun w44 ho160 hb34 hl47 hC47 => ?_)))
     have ho161 := ho156.go hb34 (fun e => (orow_ne hr19 ho156 (by decide)) (by rw [orow_blk hr19 hx10]; exact congrArg some e.symm))
     have ho162 := ho157.go hb34 (fun e => (orow_ne hr19 ho157 (by decide)) (by rw [orow_blk hr19 hx10]; exact congrArg some e.symm))
     have ho163 := ho158.go hb34 (fun e => (orow_ne hr19 ho158 (by decide)) (by rw [orow_blk hr19 hx10]; exact congrArg some e.symm))
     have ho164 := ho159.go hb34 (fun e => (orow_ne hr19 ho159 (by decide)) (by rw [orow_blk hr19 hx10]; exact congrArg some e.symm))
     refine Zn (ew_blockN (Ze (cw_seq (cw_tree (by kernel_rfl) fun w45 hS11 => ?_))))
     have hl48 := Le.no M3 hS11
     have hC48 := hC47.no hS11
     have ho165 := ho161.no hS11
     have ho166 := ho162.no hS11
     have ho167 := ho163.no hS11
     have ho168 := ho164.no hS11
     have hr20 := ho160.no hS11
     refine tw_step (i := 0) (js := [1]) (by kernel_rfl) ⟨?_, ?_, Zt⟩
     ·
      have lz24 := (((lz20.trans hl46).trans hl47).trans hl48)
      refine nd_op Z Z Z Z (Zl (R := RBox) Z Z (ARep.mono lz24 hp1) (Tryd.sizeOf25 _) (Tryd.isAgg25 _) fun v22 hv22 => tw_step (i := 1) (js := [2]) (by kernel_rfl) ⟨?_, ?_, Zt⟩)
      ·
       refine nd_op Z Z Z Z (ow_loadOwnA Z Z Z ho168 (Tryd.isAgg25 _) (Tryd.sizeOf25 _) Z ?_)
       have hw31 := hr20.freezeDel
       have hC49 := hr20.cxDel hC48 hX hO
       have hl49 := Le.del w45 M3 (.slice A10 z1.length c10)
       have hm35 : (Del (.slice A10 z1.length c10) M3) g1 := ⟨hm31, fun e => (orow_ne hr20 ho166 (by decide)) e⟩
       have hm36 : (Del (.slice A10 z1.length c10) M3) g2 := ⟨hm32, fun e => (orow_ne hr20 ho167 (by decide)) e⟩
       refine tw_step (i := 2) (js := []) (by kernel_rfl) ⟨?_, Zt⟩
       obtain ⟨A11, c11, rfl, hw33⟩ := open_Box hv22
       refine nd_op0 Z Z Z (ow_store (X := (One g)) (us := [(.slice A11 x1.1.Sides.length c11)]) (cs' := #[(.slice A11 x1.1.Sides.length c11)]) Z Z Z Z ho166 (Tryd.sizeOf25 _) Z Z Z Z hm35 (.inl hg2) Z hC49 fun w46 ho169 hb35 hl50 hC50 => ?_)
       have ho170 := ho165.go hb35 (fun e => hn1 e)
       have ho171 := ho167.go hb35 (fun e => hn3 e.symm)
       refine tw_step (i := 3) (js := []) (by kernel_rfl) ⟨(nd_op0 Z Z Z (ow_store (X := (One g)) (us := [(.slice A10 z1.length c10)]) (cs' := #[(.slice A10 z1.length c10)]) Z Z Z Z ho171 (Tryd.sizeOf25 _) Z Z Z Z hm36 (.inl hg4) Z hC50 fun w47 ho173 hb36 hl51 hC51 => ?_)), Zt⟩
       have ho174 := ho170.go hb36 (fun e => hn2 e)
       have ho175 := ho169.go hb36 (fun e => hn3 e)
       refine tw_end (by kernel_rfl) (Ze (Zy ?_))
       have lz25 := ((hl49.trans hl50).trans hl51)
       have hw34 : VRep RBox w47 (Del (.slice A10 z1.length c10) M3) ({ Sides := x1.1.Sides } : Box) (.agg #[(.slice A11 x1.1.Sides.length c11)]) := shut_Box (VRep.mono lz25 hw33)
       have hw35 : VRep RBox w47 (Del (.slice A10 z1.length c10) M3) ({ Sides := (List.set z1 (x7.1 : Int).toNat x9.1) } : Box) (.agg #[(.slice A10 z1.length c10)]) := shut_Box (VRep.mono (hl50.trans hl51) hw31)
       obtain rfl := sj h
       exact ew_ret (res2 Z (.cell Z (own_loadVarA ho175 (Tryd.isAgg25 _) (Tryd.sizeOf25 _) Z)) (.cell Z (own_loadVarA ho173 (Tryd.isAgg25 _) (Tryd.sizeOf25 _) Z))) ⟨_, Z, ⟨⟨_, _, Z, (hw34.mono hC51.back), (hw35.mono hC51.back)⟩, ho174⟩, hC51.bx⟩
      ·
       obtain ⟨A12, c12, rfl, hw36⟩ := open_Box hv22
       refine nd_op0 Z Z Z (ow_store (X := (One g)) (us := [(.slice A12 x1.1.Sides.length c12)]) (cs' := #[(.slice A12 x1.1.Sides.length c12)]) Z Z Z Z ho166 (Tryd.sizeOf25 _) Z Z Z Z hm31 (.inl hg2) Z hC48 fun w48 ho177 hb37 hl52 hC52 => ?_)
       have ho178 := ho165.go hb37 (fun e => hn1 e)
       have ho179 := ho167.go hb37 (fun e => hn3 e.symm)
       have ho180 := ho168.go hb37 (fun e => hn5 e.symm)
       have hr21 := hr20.go hb37 (fun k hk e => (orow_ne hr20 ho166 (by decide)) (hk.trans (congrArg some e))) hl52 (fun _ h => h)
       refine tw_step (i := 1) (js := []) (by kernel_rfl) ⟨(nd_op Z Z Z Z (ow_loadOwnA Z Z Z ho180 (Tryd.isAgg25 _) (Tryd.sizeOf25 _) Z ?_)), Zt⟩
       have hw37 := hr21.freezeDel
       have hC53 := hr21.cxDel hC52 hX hO
       have hl53 := Le.del w48 M3 (.slice A10 z1.length c10)
       have hm40 : (Del (.slice A10 z1.length c10) M3) g2 := ⟨hm32, fun e => (orow_ne hr21 ho179 (by decide)) e⟩
       refine tw_step (i := 3) (js := []) (by kernel_rfl) ⟨(nd_op0 Z Z Z (ow_store (X := (One g)) (us := [(.slice A10 z1.length c10)]) (cs' := #[(.slice A10 z1.length c10)]) Z Z Z Z ho179 (Tryd.sizeOf25 _) Z Z Z Z hm40 (.inl hg4) Z hC53 fun w49 ho181 hb38 hl54 hC54 => ?_)), Zt⟩
       have ho182 := ho178.go hb38 (fun e => hn2 e)
       have ho183 := ho177.go hb38 (fun e => hn3 e)
       refine tw_end (by kernel_rfl) (Ze (Zy ?_))
       have lz26 := ((hl52.trans hl53).trans hl54)
       have hw39 : VRep RBox w49 (Del (.slice A10 z1.length c10) M3) ({ Sides := x1.1.Sides } : Box) (.agg #[(.slice A12 x1.1.Sides.length c12)]) := shut_Box (VRep.mono lz26 hw36)
       have hw40 : VRep RBox w49 (Del (.slice A10 z1.length c10) M3) ({ Sides := (List.set z1 (x7.1 : Int).toNat x9.1) } : Box) (.agg #[(.slice A10 z1.length c10)]) := shut_Box (VRep.mono hl54 hw37)
       obtain rfl := sj h
       exact ew_ret (res2 Z (.cell Z (own_loadVarA ho183 (Tryd.isAgg25 _) (Tryd.sizeOf25 _) Z)) (.cell Z (own_loadVarA ho181 (Tryd.isAgg25 _) (Tryd.sizeOf25 _) Z))) ⟨_, Z, ⟨⟨_, _, Z, (hw39.mono hC54.back), (hw40.mono hC54.back)⟩, ho182⟩, hC54.bx⟩
     ·
      refine nd_op Z Z Z Z (ow_loadOwnA Z Z Z ho168 (Tryd.isAgg25 _) (Tryd.sizeOf25 _) Z ?_)
      have hw41 := hr20.freezeDel
      have hC55 := hr20.cxDel hC48 hX hO
      have hl55 := Le.del w45 M3 (.slice A10 z1.length c10)
      have hm43 : (Del (.slice A10 z1.length c10) M3) g1 := ⟨hm31, fun e => (orow_ne hr20 ho166 (by decide)) e⟩
      have hm44 : (Del (.slice A10 z1.length c10) M3) g2 := ⟨hm32, fun e => (orow_ne hr20 ho167 (by decide)) e⟩
      refine tw_step (i := 0) (js := []) (by kernel_rfl) ⟨?_, Zt⟩
      have lz27 := ((((lz20.trans hl46).trans hl47).trans hl48).trans hl55)
      refine nd_op Z Z Z Z (Zl (R := RBox) Z Z (ARep.mono lz27 hp1) (Tryd.sizeOf25 _) (Tryd.isAgg25 _) fun v23 hv23 => tw_step (i := 2) (js := []) (by kernel_rfl) ⟨?_, Zt⟩)
      obtain ⟨A13, c13, rfl, hw43⟩ := open_Box hv23
      refine nd_op0 Z Z Z (ow_store (X := (One g)) (us := [(.slice A13 x1.1.Sides.length c13)]) (cs' := #[(.slice A13 x1.1.Sides.length c13)]) Z Z Z Z ho166 (Tryd.sizeOf25 _) Z Z Z Z hm43 (.inl hg2) Z hC55 fun w50 ho185 hb39 hl56 hC56 => ?_)
      have ho186 := ho165.go hb39 (fun e => hn1 e)
      have ho187 := ho167.go hb39 (fun e => hn3 e.symm)
      refine tw_step (i := 3) (js := []) (by kernel_rfl) ⟨(nd_op0 Z Z Z (ow_store (X := (One g)) (us := [(.slice A10 z1.length c10)]) (cs' := #[(.slice A10 z1.length c10)]) Z Z Z Z ho187 (Tryd.sizeOf25 _) Z Z Z Z hm44 (.inl hg4) Z hC56 fun w51 ho189 hb40 hl57 hC57 => ?_)), Zt⟩
      have ho190 := ho186.go hb40 (fun e => hn2 e)
      have ho191 := ho185.go hb40 (fun e => hn3 e)
      refine tw_end (by kernel_rfl) (Ze (Zy ?_))
      have hw44 : VRep RBox w51 (Del (.slice A10 z1.length c10) M3) ({ Sides := x1.1.Sides } : Box) (.agg #[(.slice A13 x1.1.Sides.length c13)]) := shut_Box (VRep.mono (hl56.trans hl57) hw43)
      have hw45 : VRep RBox w51 (Del (.slice A10 z1.length c10) M3) ({ Sides := (List.set z1 (x7.1 : Int).toNat x9.1) } : Box) (.agg #[(.slice A10 z1.length c10)]) := shut_Box (VRep.mono (hl56.trans hl57) hw41)
      obtain rfl := sj h
      exact ew_ret (res2 Z (.cell Z (own_loadVarA ho191 (Tryd.isAgg25 _) (Tryd.sizeOf25 _) Z)) (.cell Z (own_loadVarA ho189 (Tryd.isAgg25 _) (Tryd.sizeOf25 _) Z))) ⟨_, Z, ⟨⟨_, _, Z, (hw44.mono hC57.back), (hw45.mono hC57.back)⟩, ho190⟩, hC57.bx⟩
   ·
    subst hc4
    refine Zu Z (cw_skip (ew_blockN (Ze (cw_seq (cw_tree (by kernel_rfl) fun w52 hS12 => ?_)))))
    have hl58 := Le.no (Add g3 (Add g2 (Add g1 M))) hS12
    have hC58 := hC30.no hS12
    have ho193 := ho99.no hS12
    have ho194 := ho100.no hS12
    have ho195 := ho101.no hS12
    have ho196 := ho102.no hS12
    refine tw_step (i := 0) (js := [1]) (by kernel_rfl) ⟨?_, ?_, Zt⟩
    ·
     have lz28 := ((lz15.trans hl30).trans hl58)
     refine nd_op Z Z Z Z (Zl (R := RBox) Z Z (ARep.mono lz28 hp1) (Tryd.sizeOf25 _) (Tryd.isAgg25 _) fun v24 hv24 => tw_step (i := 1) (js := [2]) (by kernel_rfl) ⟨?_, ?_, Zt⟩)
     ·
      refine nd_op Z Z Z Z (ow_loadOwnA Z Z Z ho196 (Tryd.isAgg25 _) (Tryd.sizeOf25 _) Z ?_)
      have lz29 := ((((hl6.trans hl7).trans hl8).trans hl30).trans hl58)
      refine tw_step (i := 2) (js := []) (by kernel_rfl) ⟨?_, Zt⟩
      obtain ⟨A14, c14, rfl, hw47⟩ := open_Box hv24
      refine nd_op0 Z Z Z (ow_store (X := (One g)) (us := [(.slice A14 x1.1.Sides.length c14)]) (cs' := #[(.slice A14 x1.1.Sides.length c14)]) Z Z Z Z ho194 (Tryd.sizeOf25 _) Z Z Z Z hm7 (.inl hg2) Z hC58 fun w53 ho197 hb41 hl59 hC59 => ?_)
      have ho198 := ho193.go hb41 (fun e => hn1 e)
      have ho199 := ho195.go hb41 (fun e => hn3 e.symm)
      refine tw_step (i := 3) (js := []) (by kernel_rfl) ⟨(nd_op0 Z Z Z (ow_store (X := (One g)) (us := [(.slice A1 x2.1.Sides.length c1)]) (cs' := #[(.slice A1 x2.1.Sides.length c1)]) Z Z Z Z ho199 (Tryd.sizeOf25 _) Z Z Z Z hm8 (.inl hg4) Z hC59 fun w54 ho201 hb42 hl60 hC60 => ?_)), Zt⟩
      have ho202 := ho198.go hb42 (fun e => hn2 e)
      have ho203 := ho197.go hb42 (fun e => hn3 e)
      refine tw_end (by kernel_rfl) (Ze (Zy ?_))
      have hw48 : VRep RBox w54 (Add g3 (Add g2 (Add g1 M))) ({ Sides := x1.1.Sides } : Box) (.agg #[(.slice A14 x1.1.Sides.length c14)]) := shut_Box (VRep.mono (hl59.trans hl60) hw47)
      have lz30 := ((lz29.trans hl59).trans hl60)
      have hw49 : VRep RBox w54 (Add g3 (Add g2 (Add g1 M))) ({ Sides := x2.1.Sides } : Box) (.agg #[(.slice A1 x2.1.Sides.length c1)]) := shut_Box (VRep.mono lz30 hw1)
      obtain rfl := sj h
      exact ew_ret (res2 Z (.cell Z (own_loadVarA ho203 (Tryd.isAgg25 _) (Tryd.sizeOf25 _) Z)) (.cell Z (own_loadVarA ho201 (Tryd.isAgg25 _) (Tryd.sizeOf25 _) Z))) ⟨_, Z, ⟨⟨_, _, Z, (hw48.mono hC60.back), (hw49.mono hC60.back)⟩, ho202⟩, hC60.bx⟩
     ·
      obtain ⟨A15, c15, rfl, hw50⟩ := open_Box hv24
      refine nd_op0 Z Z Z (ow_store (X := (One g)) (us := [(.slice A15 x1.1.Sides.length c15)]) (cs' := #[(.slice A15 x1.1.Sides.length c15)]) Z Z Z Z ho194 (Tryd.sizeOf25 _) Z Z Z Z hm7 (.inl hg2) Z hC58 fun w55 ho205 hb43 hl61 hC61 => ?_)
      have ho206 := ho193.go hb43 (fun e => hn1 e)
      have ho207 := ho195.go hb43 (fun e => hn3 e.symm)
      have ho208 := ho196.go hb43 (fun e => hn5 e.symm)
      refine tw_step (i := 1) (js := []) (by kernel_rfl) ⟨(nd_op Z Z Z Z (ow_loadOwnA Z Z Z ho208 (Tryd.isAgg25 _) (Tryd.sizeOf25 _) Z ?_)), Zt⟩
      have lz31 := (((((hl6.trans hl7).trans hl8).trans hl30).trans hl58).trans hl61)
      refine tw_step (i := 3) (js := []) (by kernel_rfl) ⟨(nd_op0 Z Z Z (ow_store (X := (One g)) (us := [(.slice A1 x2.1.Sides.length c1)]) (cs' := #[(.slice A1 x2.1.Sides.length c1)]) Z Z Z Z ho207 (Tryd.sizeOf25 _) Z Z Z Z hm8 (.inl hg4) Z hC61 fun w56 ho209 hb44 hl62 hC62 => ?_)), Zt⟩
      have ho210 := ho206.go hb44 (fun e => hn2 e)
      have ho211 := ho205.go hb44 (fun e => hn3 e)
      refine tw_end (by kernel_rfl) (Ze (Zy ?_))
      have hw52 : VRep RBox w56 (Add g3 (Add g2 (Add g1 M))) ({ Sides := x1.1.Sides } : Box) (.agg #[(.slice A15 x1.1.Sides.length c15)]) := shut_Box (VRep.mono (hl61.trans hl62) hw50)
      have hw53 : VRep RBox w56 (Add g3 (Add g2 (Add g1 M))) ({ Sides := x2.1.Sides } : Box) (.agg #[(.slice A1 x2.1.Sides.length c1)]) := shut_Box (VRep.mono (lz31.trans hl62) hw1)
      obtain rfl := sj h
      exact ew_ret (res2 Z (.cell Z (own_loadVarA ho211 (Tryd.isAgg25 _) (Tryd.sizeOf25 _) Z)) (.cell Z (own_loadVarA ho209 (Tryd.isAgg25 _) (Tryd.sizeOf25 _) Z))) ⟨_, Z, ⟨⟨_, _, Z, (hw52.mono hC62.back), (hw53.mono hC62.back)⟩, ho210⟩, hC62.bx⟩
    ·
     refine nd_op Z Z Z Z (ow_loadOwnA Z Z Z ho196 (Tryd.isAgg25 _) (Tryd.sizeOf25 _) Z ?_)
     have lz32 := ((((hl6.trans hl7).trans hl8).trans hl30).trans hl58)
     refine tw_step (i := 0) (js := []) (by kernel_rfl) ⟨?_, Zt⟩
     have lz33 := ((lz15.trans hl30).trans hl58)
     refine nd_op Z Z Z Z (Zl (R := RBox) Z Z (ARep.mono lz33 hp1) (Tryd.sizeOf25 _) (Tryd.isAgg25 _) fun v25 hv25 => tw_step (i := 2) (js := []) (by kernel_rfl) ⟨?_, Zt⟩)
     obtain ⟨A16, c16, rfl, hw55⟩ := open_Box hv25
     refine nd_op0 Z Z Z (ow_store (X := (One g)) (us := [(.slice A16 x1.1.Sides.length c16)]) (cs' := #[(.slice A16 x1.1.Sides.length c16)]) Z Z Z Z ho194 (Tryd.sizeOf25 _) Z Z Z Z hm7 (.inl hg2) Z hC58 fun w57 ho213 hb45 hl63 hC63 => ?_)
     have ho214 := ho193.go hb45 (fun e => hn1 e)
     have ho215 := ho195.go hb45 (fun e => hn3 e.symm)
     refine tw_step (i := 3) (js := []) (by kernel_rfl) ⟨(nd_op0 Z Z Z (ow_store (X := (One g)) (us := [(.slice A1 x2.1.Sides.length c1)]) (cs' := #[(.slice A1 x2.1.Sides.length c1)]) Z Z Z Z ho215 (Tryd.sizeOf25 _) Z Z Z Z hm8 (.inl hg4) Z hC63 fun w58 ho217 hb46 hl64 hC64 => ?_)), Zt⟩
     have ho218 := ho214.go hb46 (fun e => hn2 e)
     have ho219 := ho213.go hb46 (fun e => hn3 e)
     refine tw_end (by kernel_rfl) (Ze (Zy ?_))
     have hw56 : VRep RBox w58 (Add g3 (Add g2 (Add g1 M))) ({ Sides := x1.1.Sides } : Box) (.agg #[(.slice A16 x1.1.Sides.length c16)]) := shut_Box (VRep.mono (hl63.trans hl64) hw55)
     have lz34 := ((lz32.trans hl63).trans hl64)
     have hw57 : VRep RBox w58 (Add g3 (Add g2 (Add g1 M))) ({ Sides := x2.1.Sides } : Box) (.agg #[(.slice A1 x2.1.Sides.length c1)]) := shut_Box (VRep.mono lz34 hw1)
     obtain rfl := sj h
     exact ew_ret (res2 Z (.cell Z (own_loadVarA ho219 (Tryd.isAgg25 _) (Tryd.sizeOf25 _) Z)) (.cell Z (own_loadVarA ho217 (Tryd.isAgg25 _) (Tryd.sizeOf25 _) Z))) ⟨_, Z, ⟨⟨_, _, Z, (hw56.mono hC64.back), (hw57.mono hC64.back)⟩, ho218⟩, hC64.bx⟩
  ·
   obtain rfl := hbb3.trans hc3
   refine Zu Z (cw_skip (ew_blockN (Ze (cw_seq (cw_tree (by kernel_rfl) fun w59 hS13 => ?_)))))
   have hl65 := Le.no (Add g3 (Add g2 (Add g1 M))) hS13
   have hC65 := hC8.no hS13
   have ho221 := ho23.no hS13
   have ho222 := ho24.no hS13
   have ho223 := ho25.no hS13
   have ho224 := ho26.no hS13
   refine tw_step (i := 0) (js := [1]) (by kernel_rfl) ⟨?_, ?_, Zt⟩
   ·
    have lz35 := ((((hl5.trans hl6).trans hl7).trans hl8).trans hl65)
    refine nd_op Z Z Z Z (Zl (R := RBox) Z Z (ARep.mono lz35 hp1) (Tryd.sizeOf25 _) (Tryd.isAgg25 _) fun v26 hv26 => tw_step (i := 1) (js := [2]) (by kernel_rfl) ⟨?_, ?_, Zt⟩)
    ·
     refine nd_op Z Z Z Z (ow_loadOwnA Z Z Z ho224 (Tryd.isAgg25 _) (Tryd.sizeOf25 _) Z ?_)
     have lz36 := (((hl6.trans hl7).trans hl8).trans hl65)
     refine tw_step (i := 2) (js := []) (by kernel_rfl) ⟨?_, Zt⟩
     obtain ⟨A17, c17, rfl, hw59⟩ := open_Box hv26
     refine nd_op0 Z Z Z (ow_store (X := (One g)) (us := [(.slice A17 x1.1.Sides.length c17)]) (cs' := #[(.slice A17 x1.1.Sides.length c17)]) Z Z Z Z ho222 (Tryd.sizeOf25 _) Z Z Z Z hm7 (.inl hg2) Z hC65 fun w60 ho225 hb47 hl66 hC66 => ?_)
     have ho226 := ho221.go hb47 (fun e => hn1 e)
     have ho227 := ho223.go hb47 (fun e => hn3 e.symm)
     refine tw_step (i := 3) (js := []) (by kernel_rfl) ⟨(nd_op0 Z Z Z (ow_store (X := (One g)) (us := [(.slice A1 x2.1.Sides.length c1)]) (cs' := #[(.slice A1 x2.1.Sides.length c1)]) Z Z Z Z ho227 (Tryd.sizeOf25 _) Z Z Z Z hm8 (.inl hg4) Z hC66 fun w61 ho229 hb48 hl67 hC67 => ?_)), Zt⟩
     have ho230 := ho226.go hb48 (fun e => hn2 e)
     have ho231 := ho225.go hb48 (fun e => hn3 e)
     refine tw_end (by kernel_rfl) (Ze (Zy ?_))
     have hw60 : VRep RBox w61 (Add g3 (Add g2 (Add g1 M))) ({ Sides := x1.1.Sides } : Box) (.agg #[(.slice A17 x1.1.Sides.length c17)]) := shut_Box (VRep.mono (hl66.trans hl67) hw59)
     have lz37 := ((lz36.trans hl66).trans hl67)
     have hw61 : VRep RBox w61 (Add g3 (Add g2 (Add g1 M))) ({ Sides := x2.1.Sides } : Box) (.agg #[(.slice A1 x2.1.Sides.length c1)]) := shut_Box (VRep.mono lz37 hw1)
     obtain rfl := sj h
     exact ew_ret (res2 Z (.cell Z (own_loadVarA ho231 (Tryd.isAgg25 _) (Tryd.sizeOf25 _) Z)) (.cell Z (own_loadVarA ho229 (Tryd.isAgg25 _) (Tryd.sizeOf25 _) Z))) ⟨_, Z, ⟨⟨_, _, Z, (hw60.mono hC67.back), (hw61.mono hC67.back)⟩, ho230⟩, hC67.bx⟩
    ·
     obtain ⟨A18, c18, rfl, hw62⟩ := open_Box hv26
     refine nd_op0 Z Z Z (ow_store (X := (One g)) (us := [(.slice A18 x1.1.Sides.length c18)]) (cs' := #[(.slice A18 x1.1.Sides.length c18)]) Z Z Z Z ho222 (Tryd.sizeOf25 _) Z Z Z Z hm7 (.inl hg2) Z hC65 fun w62 ho233 hb49 hl68 hC68 => ?_)
     have ho234 := ho221.go hb49 (fun e => hn1 e)
     have ho235 := ho223.go hb49 (fun e => hn3 e.symm)
     have ho236 := ho224.go hb49 (fun e => hn5 e.symm)
     refine tw_step (i := 1) (js := []) (by kernel_rfl) ⟨(nd_op Z Z Z Z (ow_loadOwnA Z Z Z ho236 (Tryd.isAgg25 _) (Tryd.sizeOf25 _) Z ?_)), Zt⟩
     have lz38 := ((((hl6.trans hl7).trans hl8).trans hl65).trans hl68)
     refine tw_step (i := 3) (js := []) (by kernel_rfl) ⟨(nd_op0 Z Z Z (ow_store (X := (One g)) (us := [(.slice A1 x2.1.Sides.length c1)]) (cs' := #[(.slice A1 x2.1.Sides.length c1)]) Z Z Z Z ho235 (Tryd.sizeOf25 _) Z Z Z Z hm8 (.inl hg4) Z hC68 fun w63 ho237 hb50 hl69 hC69 => ?_)), Zt⟩
     have ho238 := ho234.go hb50 (fun e => hn2 e)
     have ho239 := ho233.go hb50 (fun e => hn3 e)
     refine tw_end (by kernel_rfl) (Ze (Zy ?_))
     have hw64 : VRep RBox w63 (Add g3 (Add g2 (Add g1 M))) ({ Sides := x1.1.Sides } : Box) (.agg #[(.slice A18 x1.1.Sides.length c18)]) := shut_Box (VRep.mono (hl68.trans hl69) hw62)
     have hw65 : VRep RBox w63 (Add g3 (Add g2 (Add g1 M))) ({ Sides := x2.1.Sides } : Box) (.agg #[(.slice A1 x2.1.Sides.length c1)]) := shut_Box (VRep.mono (lz38.trans hl69) hw1)
     obtain rfl := sj h
     exact ew_ret (res2 Z (.cell Z (own_loadVarA ho239 (Tryd.isAgg25 _) (Tryd.sizeOf25 _) Z)) (.cell Z (own_loadVarA ho237 (Tryd.isAgg25 _) (Tryd.sizeOf25 _) Z))) ⟨_, Z, ⟨⟨_, _, Z, (hw64.mono hC69.back), (hw65.mono hC69.back)⟩, ho238⟩, hC69.bx⟩
   ·
    refine nd_op Z Z Z Z (ow_loadOwnA Z Z Z ho224 (Tryd.isAgg25 _) (Tryd.sizeOf25 _) Z ?_)
    have lz39 := (((hl6.trans hl7).trans hl8).trans hl65)
    refine tw_step (i := 0) (js := []) (by kernel_rfl) ⟨?_, Zt⟩
    have lz40 := ((((hl5.trans hl6).trans hl7).trans hl8).trans hl65)
    refine nd_op Z Z Z Z (Zl (R := RBox) Z Z (ARep.mono lz40 hp1) (Tryd.sizeOf25 _) (Tryd.isAgg25 _) fun v27 hv27 => tw_step (i := 2) (js := []) (by kernel_rfl) ⟨?_, Zt⟩)
    obtain ⟨A19, c19, rfl, hw67⟩ := open_Box hv27
    refine nd_op0 Z Z Z (ow_store (X := (One g)) (us := [(.slice A19 x1.1.Sides.length c19)]) (cs' := #[(.slice A19 x1.1.Sides.length c19)]) Z Z Z Z ho222 (Tryd.sizeOf25 _) Z Z Z Z hm7 (.inl hg2) Z hC65 fun w64 ho241 hb51 hl70 hC70 => ?_)
    have ho242 := ho221.go hb51 (fun e => hn1 e)
    have ho243 := ho223.go hb51 (fun e => hn3 e.symm)
    refine tw_step (i := 3) (js := []) (by kernel_rfl) ⟨(nd_op0 Z Z Z (ow_store (X := (One g)) (us := [(.slice A1 x2.1.Sides.length c1)]) (cs' := #[(.slice A1 x2.1.Sides.length c1)]) Z Z Z Z ho243 (Tryd.sizeOf25 _) Z Z Z Z hm8 (.inl hg4) Z hC70 fun w65 ho245 hb52 hl71 hC71 => ?_)), Zt⟩
    have ho246 := ho242.go hb52 (fun e => hn2 e)
    have ho247 := ho241.go hb52 (fun e => hn3 e)
    refine tw_end (by kernel_rfl) (Ze (Zy ?_))
    have hw68 : VRep RBox w65 (Add g3 (Add g2 (Add g1 M))) ({ Sides := x1.1.Sides } : Box) (.agg #[(.slice A19 x1.1.Sides.length c19)]) := shut_Box (VRep.mono (hl70.trans hl71) hw67)
    have lz41 := ((lz39.trans hl70).trans hl71)
    have hw69 : VRep RBox w65 (Add g3 (Add g2 (Add g1 M))) ({ Sides := x2.1.Sides } : Box) (.agg #[(.slice A1 x2.1.Sides.length c1)]) := shut_Box (VRep.mono lz41 hw1)
    obtain rfl := sj h
    exact ew_ret (res2 Z (.cell Z (own_loadVarA ho247 (Tryd.isAgg25 _) (Tryd.sizeOf25 _) Z)) (.cell Z (own_loadVarA ho245 (Tryd.isAgg25 _) (Tryd.sizeOf25 _) Z))) ⟨_, Z, ⟨⟨_, _, Z, (hw68.mono hC71.back), (hw69.mono hC71.back)⟩, ho246⟩, hC71.bx⟩

theorem w_spec_l20Open {w : World} {M : Nat → Prop} (_hG : ARep (RArr 4 RShape) w M shapes ⟨0, 0, none⟩) (hO : ∀ b, M b → b < w.heap.size) {v0p : Value} {a_code : List Int} (h0 : VRep (RSlice RU8) w M a_code v0p) {r : List Int × Int} (h : F.spec_l20Open a_code = some r) :
  Calls Tryd.prog 30 [v0p].toArray w fun e w' => ∃ v, e = .returned v ∧ (∃ g A c, v = .pointer (some ⟨g, 0, none⟩) ∧ w.heap.size ≤ g ∧ Own w' g 97 #[.slice A r.1.length c, .int .i64 r.2] ∧ VRep (RSlice RU8) w' (Add g M) r.1 (.slice A r.1.length c)) ∧ BX No w w' := by
 have hC : Cx No w M w M := Cx.start hO (fun _ e => e.elim)
 clear _hG
 refine walk (N := 11) Tryd.func30 Z Tryd.ntmps30 Z (cw_seq (Zr (Zo Z Z Z (Za Z Z (Zn (Ze (cw_seq (cw_seq (Zr (Zo Z Z Z (Zm Z Z (Zo Z Z Z (ow_len Z Z h0 Tryd.underlying22 Z (Zo Z Z Z (ow_gtr Z Z Z fun bb1 hbb1 => Zn (Ze ?_))))))))))))))))
 replace h := Zc h
 rcases h with ⟨hc1, h⟩ | ⟨hc1, h⟩
 ·
  obtain rfl := hbb1.trans hc1
  refine cw_true Z (Zr (Zo Z Z Z (Zm Z Z ?_)))
  replace h := bind_some h
  obtain ⟨y1, hy1, h⟩ := h
  refine Zo Z Z Z (ow_sliceTo (R := RU8) Z Z Z h0 Tryd.underlying22 (Tryd.sizeOf5 _) (takeF_some hy1).2 fun v1 hv1 => ?_)
  rw [← (takeF_some hy1).1] at hv1
  refine Zo Z Z Z (Za Z Z (Zn (Ze (cw_seq (Zr (Zo Z Z Z (Zm Z Z ?_)))))))
  obtain ⟨A1, c1, rfl, -⟩ := vslice_shape hv1
  refine Zo Z Z Z (ow_build (v := .agg #[(.slice A1 y1.length c1), (Zv 0)]) Z Z (by kernel_rfl) (Zo Z Z Z (ow_boxOwn Z Z hC fun g1 w1 hg1 hg2 ho1 hb1 hl1 hC1 => Zo Z Z Z (Za Z Z (Zn (Ze (Zy ?_)))))))
  obtain rfl := sj h
  exact ew_ret (res1 Z (.tmp Z)) ⟨_, Z, ⟨_, _, _, Z, hg2, ho1, (VRep.mono hl1 hv1)⟩, hC1.bx⟩
 ·
  obtain rfl := hbb1.trans hc1
  refine Zu Z (cw_skip (Ze (cw_seq (Zr (Zo Z Z Z (Zm Z Z ?_))))))
  obtain ⟨A2, c2, rfl, -⟩ := vslice_shape h0
  refine Zo Z Z Z (ow_build (v := .agg #[(.slice A2 a_code.length c2), (Zv 0)]) Z Z (by kernel_rfl) (Zo Z Z Z (ow_boxOwn Z Z hC fun g2 w2 hg3 hg4 ho2 hb2 hl2 hC2 => Zo Z Z Z (Za Z Z (Zn (Ze (Zy ?_)))))))
  obtain rfl := sj h
  exact ew_ret (res1 Z (.tmp Z)) ⟨_, Z, ⟨_, _, _, Z, hg4, ho2, (VRep.mono hl2 h0)⟩, hC2.bx⟩

theorem w_spec_DrawBoxCut {w : World} {M : Nat → Prop} (hG : ARep (RArr 4 RShape) w M shapes ⟨0, 0, none⟩) (hO : ∀ b, M b → b < w.heap.size) {v0p : Value} {a_code : List Int} (h0 : VRep (RSlice RU8) w M a_code v0p) {r : Box × Box} (h : F.spec_DrawBoxCut a_code = some r) :
  Calls Tryd.prog 8 [v0p].toArray w fun e w' => ∃ v, e = .returned v ∧ (∃ u0 u1, v = .tuple #[u0, u1] ∧ VRep RBox w' M r.1 u0 ∧ VRep RBox w' M r.2 u1) ∧ BX No w w' := by
 have hC : Cx No w M w M := Cx.start hO (fun _ e => e.elim)
 refine walk (N := 9) Tryd.func8 Z Tryd.ntmps8 Z (cw_seq (Zr (Zo Z Z Z (ow_alloc Z (Tryd.zeroValue25 _) hC fun g1 w1 hg1 hg2 ho1 hb1 hl1 hC1 => ?_))))
 have hm1 : (Add g1 M) g1 := .inl Z
 refine Zo Z Z Z (ow_alloc Z (Tryd.zeroValue25 _) hC1 fun g2 w2 hg3 hg4 ho2 hb2 hl2 hC2 => ?_)
 have hn1 := Nat.ne_of_lt (Nat.lt_of_lt_of_le ho1.lt hg3)
 have ho3 := ho1.no hb2
 have hm2 : (Add g2 (Add g1 M)) g1 := .inr hm1
 have hm3 : (Add g2 (Add g1 M)) g2 := .inl Z
 refine Zn (Ze (cw_seq (Zr (Zo Z Z Z (Zm Z Z ?_)))))
 replace h := bind_some h
 obtain ⟨x1, hx1, h⟩ := h
 refine Zo Z Z Z (Zk Z Z Tryd.call30 (w_spec_l20Open (hG.mono (hl1.trans hl2)) hC2.old (VRep.mono (hl1.trans hl2) h0) hx1) fun v1 w3 hv1 => ?_)
 obtain ⟨⟨g3, A1, c1, rfl, hg5, ho4, hw1⟩, hb3⟩ := hv1
 have hl3 := (Le.no (Add g2 (Add g1 M)) hb3).add hg5
 have hg6 := Nat.le_trans hC2.bx.size hg5
 have hC3 := (hC2.no hb3).add ho4.lt hg6
 have hn2 := Nat.ne_of_lt (Nat.lt_of_lt_of_le ho3.lt hg5)
 have ho5 := ho3.no hb3
 have hm4 : (Add g3 (Add g2 (Add g1 M))) g1 := .inr hm2
 have hn3 := Nat.ne_of_lt (Nat.lt_of_lt_of_le ho2.lt hg5)
 have ho6 := ho2.no hb3
 have hm5 : (Add g3 (Add g2 (Add g1 M))) g2 := .inr hm3
 have hm6 : (Add g3 (Add g2 (Add g1 M))) g3 := .inl Z
 replace h := bind_some h
 obtain ⟨x2, hx2, h⟩ := h
 have lz1 := ((hl1.trans hl2).trans hl3)
 refine Zo Z Z Z (Zk Z Z Tryd.call29 (w_spec_l20Two (hG.mono lz1) hC3.old hw1 ho4 hm6 hx2) fun v2 w4 hv2 => ?_)
 obtain ⟨⟨⟨v3, v4, rfl, hv3, hv4⟩, ho7⟩, hb4⟩ := hv2
 have hC4 := hC3.go hb4 (fun b e => (by rw [show b = g3 from e]; exact (.inl hg6)))
 have ho8 := ho5.go hb4 (fun e => hn2 e)
 have ho9 := ho6.go hb4 (fun e => hn3 e)
 refine Zo Z Z Z (ow_extract Z Z Z (Zo Z Z Z (ow_extract Z Z Z ?_)))
 obtain ⟨A2, c2, rfl, hw2⟩ := open_Box hv3
 refine lw_op0 Z Z (ow_store (X := No) (us := [(.slice A2 x2.1.Sides.length c2)]) (cs' := #[(.slice A2 x2.1.Sides.length c2)]) Z Z Z Z ho8 (Tryd.sizeOf25 _) Z Z Z Z hm4 (.inl hg2) Z hC4 fun w5 ho10 hb5 hl5 hC5 => ?_)
 have ho11 := ho9.go hb5 (fun e => hn1 e.symm)
 obtain ⟨A3, c3, rfl, hw3⟩ := open_Box hv4
 refine lw_op0 Z Z (ow_store (X := No) (us := [(.slice A3 x2.2.1.Sides.length c3)]) (cs' := #[(.slice A3 x2.2.1.Sides.length c3)]) Z Z Z Z ho11 (Tryd.sizeOf25 _) Z Z Z Z hm5 (.inl hg4) Z hC5 fun w6 ho13 hb6 hl6 hC6 => ?_)
 have ho14 := ho10.go hb6 (fun e => hn1 e)
 refine Zn (Ze (Zy ?_))
 have hw4 : VRep RBox w6 (Add g3 (Add g2 (Add g1 M))) ({ Sides := x2.1.Sides } : Box) (.agg #[(.slice A2 x2.1.Sides.length c2)]) := shut_Box (VRep.mono (hl5.trans hl6) hw2)
 have hw5 : VRep RBox w6 (Add g3 (Add g2 (Add g1 M))) ({ Sides := x2.2.1.Sides } : Box) (.agg #[(.slice A3 x2.2.1.Sides.length c3)]) := shut_Box (VRep.mono (hl5.trans hl6) hw3)
 obtain rfl := sj h
 exact ew_ret (res2 Z (.cell Z (own_loadVarA ho14 (Tryd.isAgg25 _) (Tryd.sizeOf25 _) Z)) (.cell Z (own_loadVarA ho13 (Tryd.isAgg25 _) (Tryd.sizeOf25 _) Z))) ⟨_, Z, ⟨_, _, Z, (hw4.mono hC6.back), (hw5.mono hC6.back)⟩, hC6.bx⟩

theorem w_impl_firstCommon {w : World} {M : Nat → Prop} (_hG : ARep (RArr 4 RShape) w M shapes ⟨0, 0, none⟩) (hO : ∀ b, M b → b < w.heap.size) {v0p : Value} {a_a : List Span} (h0 : VRep (RSlice RSpan) w M a_a v0p) {v1p : Value} {a_b : List Span} (h1 : VRep (RSlice RSpan) w M a_b v1p) {r : Int × Bool} (h : F.impl_firstCommon a_a a_b = some r) :
  Calls Tryd.prog 113 [v0p, v1p].toArray w fun e w' => ∃ v, e = .returned v ∧ (∃ u0 u1, v = .tuple #[u0, u1] ∧ VRep RInt w' M r.1 u0 ∧ VRep RBool w' M r.2 u1) ∧ BX No w w' := by
 have hC : Cx No w M w M := Cx.start hO (fun _ e => e.elim)
 clear _hG
 refine walk (N := 59) Tryd.func113 Z Tryd.ntmps113 Z (cw_seq (Zr (Zo Z Z Z (Za Z Z (Zo Z Z Z (Za Z Z (Zn (Ze (cw_seq (cw_seq (Zr (Zo Z Z Z (Za Z Z (Zo Z Z Z (Za Z Z (Zn (Ze ?_)))))))))))))))))
 replace h := bind_some h
 obtain ⟨lr1, hlr1, h⟩ := h
 refine cw_for hlr1 (fun s a w' => ∃ (M' : Nat → Prop), Fits 59 [(0, v0p), (1, v1p), (6, (Zv s.1)), (7, (Zv s.2))] a ∧ Le w M w' M' ∧ Cx No w M w' M') ?_ ?_ ?_
 · exact fun a ha => ⟨M, ha.sub ⟨Z, Z, Z, Z, Zt⟩, Le.refl _ _, hC⟩
 ·
  rintro ⟨k1, k2⟩ a w1 sr1 ⟨M1, hF1, hl1, hC1⟩ hb1 hR1
  refine cw_at (E := [(0, v0p), (1, v1p), (6, (Zv k1)), (7, (Zv k2))]) hF1 (cw_seq (cw_seq (Zr (Zo Z Z Z (Zm Z Z (Zo Z Z Z (Zm Z Z (Zo Z Z Z (ow_len Z Z (VRep.mono hl1 h0) Tryd.underlying59 Z (Zo Z Z Z (ow_lss Z Z Z fun bb1 hbb1 => Zo Z Z Z (Zm Z Z ?_))))))))))))
  replace hb1 := Zc hb1
  rcases hb1 with ⟨hc1, hb1⟩ | ⟨hc1, hb1⟩
  ·
   obtain rfl := hbb1.trans hc1
   refine lw_on Z Z Z Z Z Z (Zm Z Z (lw_on Z Z Z Z Z Z (Zm Z Z (lw_on Z Z Z Z Z Z (ow_len Z Z (VRep.mono hl1 h1) Tryd.underlying59 Z (lw_on Z Z Z Z Z Z (ow_lss Z Z Z fun bb2 hbb2 => Zo Z Z Z (ow_pickT Z Z Z (Zn (Ze ?_))))))))))
   replace hb1 := Zc hb1
   rcases hb1 with ⟨hc2, hb1⟩ | ⟨hc2, hb1⟩
   ·
    obtain rfl := hbb2.trans hc2
    refine cw_true Z (cw_skip (Ze (cw_block (cw_seq ?_))))
    replace hb1 := bind_some hb1
    obtain ⟨x1, hx1, hb1⟩ := hb1
    replace hb1 := bind_some hb1
    obtain ⟨x2, hx2, hb1⟩ := hb1
    refine cw_sub (E' := [(0, v0p), (1, v1p), (6, (Zv k1)), (7, (Zv k2))]) ⟨Z, Z, Z, Z, Zt⟩ (cw_drawQ 10 [PV (RSlice RSpan) M1 a_a, PEq (Zv k1), PA RSpan M1 x1, PA RInt M1 x1.Lo, PEq (Zv x1.Lo), PV (RSlice RSpan) M1 a_b, PEq (Zv k2), PA RSpan M1 x2, PA RInt M1 x2.Lo, PEq (Zv x2.Lo)] (by kernel_rfl) Z (by kernel_rfl) ⟨PV.mono _ _ _, Zq, PA.mono _ _ _, PA.mono _ _ _, Zq, PV.mono _ _ _, Zq, PA.mono _ _ _, PA.mono _ _ _, Zq, Zt⟩ ⟨?_, ?_, ?_, ?_, ?_, ?_, ?_, ?_, ?_, ?_, Zt⟩ ?_)
    ·
     intro w2 D hS1 hd1
     have hl2 := Le.no M1 hS1
     exact Zs (E' := [(0, v0p)]) ⟨Z, Zt⟩ (Zp Z (Zm Z Z ⟨BX.refl _ _, (VRep.mono (hl1.trans hl2) h0)⟩))
    · exact fun w3 D hS2 hd2 => Zs (E' := [(6, (Zv k1))]) ⟨Z, Zt⟩ (Zp Z (Zm Z Z Zb))
    ·
     intro w4 D hS3 hd3
     have d1 : PV (RSlice RSpan) M1 a_a (D 0) w4 := dpA hd3 0 Z
     generalize hq1 : (D 0) = v5 at d1
     exact Zs (E' := [(19, v5), (20, (Zv k1))]) ⟨congrArg some hq1, dpE hd3 1 Z Z, Zt⟩ (Zp Z (Zx (R := RSpan) Z Z Z d1 Tryd.underlying59 (Tryd.sizeOf69 _) hx1 fun p3 hp3 => ⟨BX.refl _ _, ⟨_, Z, hp3⟩⟩))
    ·
     intro w5 D hS4 hd4
     have d3 : PA RSpan M1 x1 (D 2) w5 := dpA hd4 2 Z
     obtain ⟨p4, e1, ha1⟩ := d3
     exact Zs (E' := [(21, (.pointer (some p4)))]) ⟨congrArg some e1, Zt⟩ (Zp Z (Zf Z Z Tryd.underlying69 Z (Tryd.sizeOf3 _) ⟨BX.refl _ _, ⟨_, Z, (ha1.fld fld_Span_Lo)⟩⟩))
    ·
     intro w6 D hS5 hd5
     have d4 : PA RInt M1 x1.Lo (D 3) w6 := dpA hd5 3 Z
     obtain ⟨p5, e2, ha2⟩ := d4
     refine Zs (E' := [(22, (.pointer (some p5)))]) ⟨congrArg some e2, Zt⟩ (Zp Z (Zl (R := RInt) Z Z ha2 (Tryd.sizeOf3 _) (Tryd.isAgg3 _) fun v6 hv6 => ?_))
     obtain rfl := Zi hv6
     exact Zb
    ·
     intro w7 D hS6 hd6
     have hl7 := Le.no M1 hS6
     exact Zs (E' := [(1, v1p)]) ⟨Z, Zt⟩ (Zp Z (Zm Z Z ⟨BX.refl _ _, (VRep.mono (hl1.trans hl7) h1)⟩))
    · exact fun w8 D hS7 hd7 => Zs (E' := [(7, (Zv k2))]) ⟨Z, Zt⟩ (Zp Z (Zm Z Z Zb))
    ·
     intro w9 D hS8 hd8
     have d5 : PV (RSlice RSpan) M1 a_b (D 5) w9 := dpA hd8 5 Z
     generalize hq2 : (D 5) = v7 at d5
     exact Zs (E' := [(24, v7), (25, (Zv k2))]) ⟨congrArg some hq2, dpE hd8 6 Z Z, Zt⟩ (Zp Z (Zx (R := RSpan) Z Z Z d5 Tryd.underlying59 (Tryd.sizeOf69 _) hx2 fun p6 hp6 => ⟨BX.refl _ _, ⟨_, Z, hp6⟩⟩))
    ·
     intro w10 D hS9 hd9
     have d7 : PA RSpan M1 x2 (D 7) w10 := dpA hd9 7 Z
     obtain ⟨p7, e3, ha3⟩ := d7
     exact Zs (E' := [(26, (.pointer (some p7)))]) ⟨congrArg some e3, Zt⟩ (Zp Z (Zf Z Z Tryd.underlying69 Z (Tryd.sizeOf3 _) ⟨BX.refl _ _, ⟨_, Z, (ha3.fld fld_Span_Lo)⟩⟩))
    ·
     intro w11 D hS10 hd10
     have d8 : PA RInt M1 x2.Lo (D 8) w11 := dpA hd10 8 Z
     obtain ⟨p8, e4, ha4⟩ := d8
     refine Zs (E' := [(27, (.pointer (some p8)))]) ⟨congrArg some e4, Zt⟩ (Zp Z (Zl (R := RInt) Z Z ha4 (Tryd.sizeOf3 _) (Tryd.isAgg3 _) fun v8 hv8 => ?_))
     obtain rfl := Zi hv8
     exact Zb
    ·
     intro w12 D hS11 hd11
     have hl12 := Le.no M1 hS11
     have hC12 := hC1.no hS11
     refine lw_sub (E' := [(23, (Zv x1.Lo)), (28, (Zv x2.Lo)), (0, v0p), (1, v1p), (6, (Zv k1)), (7, (Zv k2))]) ⟨dpE hd11 4 Z Z, dpE hd11 9 Z Z, Z, Z, Z, Z, Zt⟩ (Zo Z Z Z (ow_max Z Z Z (Zo Z Z Z (Za Z Z (Zn (Ze (cw_seq (cw_seq ?_))))))))
     have lz1 := (hl1.trans hl12)
     refine cw_sub (E' := [(0, v0p), (1, v1p), (6, (Zv k1)), (7, (Zv k2)), (8, (Zv (imax x1.Lo x2.Lo)))]) ⟨Z, Z, Z, Z, Z, Zt⟩ (cw_drawQ 12 [PEq (Zv (imax x1.Lo x2.Lo)), PV (RSlice RSpan) M1 a_a, PEq (Zv k1), PA RSpan M1 x1, PA RInt M1 x1.Hi, PEq (Zv x1.Hi), PV (RSlice RSpan) M1 a_b, PEq (Zv k2), PA RSpan M1 x2, PA RInt M1 x2.Hi, PEq (Zv x2.Hi), PEq (Zv (imin x1.Hi x2.Hi))] (by kernel_rfl) Z (by kernel_rfl) ⟨Zq, PV.mono _ _ _, Zq, PA.mono _ _ _, PA.mono _ _ _, Zq, PV.mono _ _ _, Zq, PA.mono _ _ _, PA.mono _ _ _, Zq, Zq, Zt⟩ ⟨?_, ?_, ?_, ?_, ?_, ?_, ?_, ?_, ?_, ?_, ?_, ?_, Zt⟩ ?_)
     · exact fun w13 D hS12 hd12 => Zs (E' := [(8, (Zv (imax x1.Lo x2.Lo)))]) ⟨Z, Zt⟩ (Zp Z (Zm Z Z Zb))
     ·
      intro w14 D hS13 hd13
      have hl14 := Le.no M1 hS13
      exact Zs (E' := [(0, v0p)]) ⟨Z, Zt⟩ (Zp Z (Zm Z Z ⟨BX.refl _ _, (VRep.mono (lz1.trans hl14) h0)⟩))
     · exact fun w15 D hS14 hd14 => Zs (E' := [(6, (Zv k1))]) ⟨Z, Zt⟩ (Zp Z (Zm Z Z Zb))
     ·
      intro w16 D hS15 hd15
      have d19 : PV (RSlice RSpan) M1 a_a (D 1) w16 := dpA hd15 1 Z
      generalize hq3 : (D 1) = v11 at d19
      exact Zs (E' := [(31, v11), (32, (Zv k1))]) ⟨congrArg some hq3, dpE hd15 2 Z Z, Zt⟩ (Zp Z (Zx (R := RSpan) Z Z Z d19 Tryd.underlying59 (Tryd.sizeOf69 _) hx1 fun p11 hp11 => ⟨BX.refl _ _, ⟨_, Z, hp11⟩⟩))
     ·
      intro w17 D hS16 hd16
      have d21 : PA RSpan M1 x1 (D 3) w17 := dpA hd16 3 Z
      obtain ⟨p12, e5, ha5⟩ := d21
      exact Zs (E' := [(33, (.pointer (some p12)))]) ⟨congrArg some e5, Zt⟩ (Zp Z (Zf Z Z Tryd.underlying69 Z (Tryd.sizeOf3 _) ⟨BX.refl _ _, ⟨_, Z, (ha5.fld fld_Span_Hi)⟩⟩))
     ·
      intro w18 D hS17 hd17
      have d22 : PA RInt M1 x1.Hi (D 4) w18 := dpA hd17 4 Z
      obtain ⟨p13, e6, ha6⟩ := d22
      refine Zs (E' := [(34, (.pointer (some p13)))]) ⟨congrArg some e6, Zt⟩ (Zp Z (Zl (R := RInt) Z Z ha6 (Tryd.sizeOf3 _) (Tryd.isAgg3 _) fun v12 hv12 => ?_))
      obtain rfl := Zi hv12
      exact Zb
     ·
      intro w19 D hS18 hd18
      have hl19 := Le.no M1 hS18
      exact Zs (E' := [(1, v1p)]) ⟨Z, Zt⟩ (Zp Z (Zm Z Z ⟨BX.refl _ _, (VRep.mono (lz1.trans hl19) h1)⟩))
     · exact fun w20 D hS19 hd19 => Zs (E' := [(7, (Zv k2))]) ⟨Z, Zt⟩ (Zp Z (Zm Z Z Zb))
     ·
      intro w21 D hS20 hd20
      have d23 : PV (RSlice RSpan) M1 a_b (D 6) w21 := dpA hd20 6 Z
      generalize hq4 : (D 6) = v13 at d23
      exact Zs (E' := [(36, v13), (37, (Zv k2))]) ⟨congrArg some hq4, dpE hd20 7 Z Z, Zt⟩ (Zp Z (Zx (R := RSpan) Z Z Z d23 Tryd.underlying59 (Tryd.sizeOf69 _) hx2 fun p14 hp14 => ⟨BX.refl _ _, ⟨_, Z, hp14⟩⟩))
     ·
      intro w22 D hS21 hd21
      have d25 : PA RSpan M1 x2 (D 8) w22 := dpA hd21 8 Z
      obtain ⟨p15, e7, ha7⟩ := d25
      exact Zs (E' := [(38, (.pointer (some p15)))]) ⟨congrArg some e7, Zt⟩ (Zp Z (Zf Z Z Tryd.underlying69 Z (Tryd.sizeOf3 _) ⟨BX.refl _ _, ⟨_, Z, (ha7.fld fld_Span_Hi)⟩⟩))
     ·
      intro w23 D hS22 hd22
      have d26 : PA RInt M1 x2.Hi (D 9) w23 := dpA hd22 9 Z
      obtain ⟨p16, e8, ha8⟩ := d26
      refine Zs (E' := [(39, (.pointer (some p16)))]) ⟨congrArg some e8, Zt⟩ (Zp Z (Zl (R := RInt) Z Z ha8 (Tryd.sizeOf3 _) (Tryd.isAgg3 _) fun v14 hv14 => ?_))
      obtain rfl := Zi hv14
      exact Zb
     · exact fun w24 D hS23 hd23 => Zs (E' := [(35, (Zv x1.Hi)), (40, (Zv x2.Hi))]) ⟨dpE hd23 5 Z Z, dpE hd23 10 Z Z, Zt⟩ (Zp Z (ow_min Z Z Z Zb))
     ·
      intro w25 D hS24 hd24
      have hl25 := Le.no M1 hS24
      have hC25 := hC12.no hS24
      refine lw_sub (E' := [(30, (Zv (imax x1.Lo x2.Lo))), (41, (Zv (imin x1.Hi x2.Hi))), (0, v0p), (1, v1p), (6, (Zv k1)), (7, (Zv k2)), (8, (Zv (imax x1.Lo x2.Lo)))]) ⟨dpE hd24 0 Z Z, dpE hd24 11 Z Z, Z, Z, Z, Z, Z, Zt⟩ (Zo Z Z Z (ow_leq Z Z Z fun bb3 hbb3 => Zn (Ze ?_)))
      replace hb1 := Zc hb1
      rcases hb1 with ⟨hc3, hb1⟩ | ⟨hc3, hb1⟩
      ·
       obtain rfl := hbb3.trans hc3
       refine cw_true Z (cw_seq (Zr (Zo Z Z Z (Zm Z Z (Zo Z Z Z (Za Z Z (Zo Z Z Z (Za Z Z (Zn (Ze (Zy (Zh (ew_blockR (Zh (ew_blockR (ew_brkR (Zh ?_)))))))))))))))))
       have e9 := hR1 _ (sj hb1).symm
       subst e9
       obtain rfl := sj h
       exact ew_ret (res2 Z (.tmp Z) (.tmp Z)) ⟨_, Z, ⟨_, _, Z, ((vint _)), ((vbool _))⟩, hC25.bx⟩
      ·
       obtain rfl := hbb3.trans hc3
       refine Zu Z (cw_skip (Ze (cw_seq ?_)))
       have lz2 := (lz1.trans hl25)
       refine cw_sub (E' := [(0, v0p), (1, v1p), (6, (Zv k1)), (7, (Zv k2))]) ⟨Z, Z, Z, Z, Zt⟩ (cw_drawQ 10 [PV (RSlice RSpan) M1 a_a, PEq (Zv k1), PA RSpan M1 x1, PA RInt M1 x1.Hi, PEq (Zv x1.Hi), PV (RSlice RSpan) M1 a_b, PEq (Zv k2), PA RSpan M1 x2, PA RInt M1 x2.Hi, PEq (Zv x2.Hi)] (by kernel_rfl) Z (by kernel_rfl) ⟨PV.mono _ _ _, Zq, PA.mono _ _ _, PA.mono _ _ _, Zq, PV.mono _ _ _, Zq, PA.mono _ _ _, PA.mono _ _ _, Zq, Zt⟩ ⟨?_, ?_, ?_, ?_, ?_, ?_, ?_, ?_, ?_, ?_, Zt⟩ ?_)
       ·
        intro w26 D hS25 hd25
        have hl26 := Le.no M1 hS25
        exact Zs (E' := [(0, v0p)]) ⟨Z, Zt⟩ (Zp Z (Zm Z Z ⟨BX.refl _ _, (VRep.mono (lz2.trans hl26) h0)⟩))
       · exact fun w27 D hS26 hd26 => Zs (E' := [(6, (Zv k1))]) ⟨Z, Zt⟩ (Zp Z (Zm Z Z Zb))
       ·
        intro w28 D hS27 hd27
        have d41 : PV (RSlice RSpan) M1 a_a (D 0) w28 := dpA hd27 0 Z
        generalize hq5 : (D 0) = v17 at d41
        exact Zs (E' := [(44, v17), (45, (Zv k1))]) ⟨congrArg some hq5, dpE hd27 1 Z Z, Zt⟩ (Zp Z (Zx (R := RSpan) Z Z Z d41 Tryd.underlying59 (Tryd.sizeOf69 _) hx1 fun p19 hp19 => ⟨BX.refl _ _, ⟨_, Z, hp19⟩⟩))
       ·
        intro w29 D hS28 hd28
        have d43 : PA RSpan M1 x1 (D 2) w29 := dpA hd28 2 Z
        obtain ⟨p20, e10, ha9⟩ := d43
        exact Zs (E' := [(46, (.pointer (some p20)))]) ⟨congrArg some e10, Zt⟩ (Zp Z (Zf Z Z Tryd.underlying69 Z (Tryd.sizeOf3 _) ⟨BX.refl _ _, ⟨_, Z, (ha9.fld fld_Span_Hi)⟩⟩))
       ·
        intro w30 D hS29 hd29
        have d44 : PA RInt M1 x1.Hi (D 3) w30 := dpA hd29 3 Z
        obtain ⟨p21, e11, ha10⟩ := d44
        refine Zs (E' := [(47, (.pointer (some p21)))]) ⟨congrArg some e11, Zt⟩ (Zp Z (Zl (R := RInt) Z Z ha10 (Tryd.sizeOf3 _) (Tryd.isAgg3 _) fun v18 hv18 => ?_))
        obtain rfl := Zi hv18
        exact Zb
       ·
        intro w31 D hS30 hd30
        have hl31 := Le.no M1 hS30
        exact Zs (E' := [(1, v1p)]) ⟨Z, Zt⟩ (Zp Z (Zm Z Z ⟨BX.refl _ _, (VRep.mono (lz2.trans hl31) h1)⟩))
       · exact fun w32 D hS31 hd31 => Zs (E' := [(7, (Zv k2))]) ⟨Z, Zt⟩ (Zp Z (Zm Z Z Zb))
       ·
        intro w33 D hS32 hd32
        have d45 : PV (RSlice RSpan) M1 a_b (D 5) w33 := dpA hd32 5 Z
        generalize hq6 : (D 5) = v19 at d45
        exact Zs (E' := [(49, v19), (50, (Zv k2))]) ⟨congrArg some hq6, dpE hd32 6 Z Z, Zt⟩ (Zp Z (Zx (R := RSpan) Z Z Z d45 Tryd.underlying59 (Tryd.sizeOf69 _) hx2 fun p22 hp22 => ⟨BX.refl _ _, ⟨_, Z, hp22⟩⟩))
       ·
        intro w34 D hS33 hd33
        have d47 : PA RSpan M1 x2 (D 7) w34 := dpA hd33 7 Z
        obtain ⟨p23, e12, ha11⟩ := d47
        exact Zs (E' := [(51, (.pointer (some p23)))]) ⟨congrArg some e12, Zt⟩ (Zp Z (Zf Z Z Tryd.underlying69 Z (Tryd.sizeOf3 _) ⟨BX.refl _ _, ⟨_, Z, (ha11.fld fld_Span_Hi)⟩⟩))
       ·
        intro w35 D hS34 hd34
        have d48 : PA RInt M1 x2.Hi (D 8) w35 := dpA hd34 8 Z
        obtain ⟨p24, e13, ha12⟩ := d48
        refine Zs (E' := [(52, (.pointer (some p24)))]) ⟨congrArg some e13, Zt⟩ (Zp Z (Zl (R := RInt) Z Z ha12 (Tryd.sizeOf3 _) (Tryd.isAgg3 _) fun v20 hv20 => ?_))
        obtain rfl := Zi hv20
        exact Zb
       ·
        intro w36 D hS35 hd35
        have hl36 := Le.no M1 hS35
        have hC36 := hC25.no hS35
        refine lw_sub (E' := [(48, (Zv x1.Hi)), (53, (Zv x2.Hi)), (0, v0p), (1, v1p), (6, (Zv k1)), (7, (Zv k2))]) ⟨dpE hd35 4 Z Z, dpE hd35 9 Z Z, Z, Z, Z, Z, Zt⟩ (Zo Z Z Z (ow_lss Z Z Z fun bb4 hbb4 => Zn (Ze ?_)))
        replace hb1 := Zc hb1
        rcases hb1 with ⟨hc4, hb1⟩ | ⟨hc4, hb1⟩
        ·
         obtain rfl := hbb4.trans hc4
         exact cw_true Z (Zr (Zo Z Z Z (Zm Z Z (Zo Z Z Z (ow_add Z Z Z (Zo Z Z Z (Za Z Z (Zn (ew_blockN (ew_nxt ((W (k1 + 1)), k2) hb1 fun a ha => ⟨M1, (ha.sub ⟨Z, Z, Z, Z, Zt⟩), (lz2.trans hl36), hC36⟩))))))))))
        ·
         obtain rfl := hbb4.trans hc4
         exact Zu Z (Zr (Zo Z Z Z (Zm Z Z (Zo Z Z Z (ow_add Z Z Z (Zo Z Z Z (Za Z Z (Zn (ew_blockN (ew_nxt (k1, (W (k2 + 1))) hb1 fun a ha => ⟨M1, (ha.sub ⟨Z, Z, Z, Z, Zt⟩), (lz2.trans hl36), hC36⟩))))))))))
   ·
    obtain rfl := hbb2.trans hc2
    exact Zu Z (cw_exit (ew_thenX (ew_thenX (ew_blockX (ew_brk (k1, k2) hb1 fun a ha => ⟨M1, (ha.sub ⟨Z, Z, Z, Z, Zt⟩), hl1, hC1⟩)))))
  ·
   obtain rfl := hbb1.trans hc1
   exact lw_off Z Z Z Z Z Z (lw_off Z Z Z Z Z Z (lw_off Z Z Z Z Z Z (lw_off Z Z Z Z Z Z (Zo Z Z Z (ow_pickF Z Z Z (Zn (Ze (Zu Z (cw_exit (ew_thenX (ew_thenX (ew_blockX (ew_brk (k1, k2) hb1 fun a ha => ⟨M1, (ha.sub ⟨Z, Z, Z, Z, Zt⟩), hl1, hC1⟩)))))))))))))
 ·
  rintro ⟨k3, k4⟩ a w37 hlr2 ⟨M2, hF2, hl37, hC37⟩
  subst hlr2
  refine ew_at (E := [(0, v0p), (1, v1p), (6, (Zv k3)), (7, (Zv k4))]) hF2 (Ze (cw_seq (Zr (Zo Z Z Z (Za Z Z (Zo Z Z Z (Za Z Z (Zn (Ze (Zy ?_))))))))))
  obtain rfl := sj h
  exact ew_ret (res2 Z (.tmp Z) (.tmp Z)) ⟨_, Z, ⟨_, _, Z, ((vint _)), ((vbool _))⟩, hC37.bx⟩

theorem w_impl_packetOf {w : World} {M : Nat → Prop} (_hG : ARep (RArr 4 RShape) w M shapes ⟨0, 0, none⟩) (hO : ∀ b, M b → b < w.heap.size) {v0p : Value} {a_fields : List Int} (h0 : VRep (RArr 4 RInt) w M a_fields v0p) {r : Packet} (h : F.impl_packetOf a_fields = some r) :
  Calls Tryd.prog 114 [v0p].toArray w fun e w' => ∃ v, e = .returned v ∧ VRep RPacket w' M r v ∧ BX No w w' := by
 have hC : Cx No w M w M := Cx.start hO (fun _ e => e.elim)
 clear _hG
 refine walk (N := 12) Tryd.func114 Z Tryd.ntmps114 Z (cw_seq (Zr (Zo Z Z Z (ow_box (R := (RArr 4 RInt)) Z Z h0 hC fun p1 w1 hp1 hb1 hl1 hC1 => Zo Z Z Z (ow_alloc Z (Tryd.zeroValue34 _) hC1 fun g1 w2 hg1 hg2 ho1 hb2 hl2 hC2 => ?_)))))
 have hm1 : (Add g1 M) g1 := .inl Z
 refine Zn (Ze (cw_seq (Zr ?_)))
 replace h := bind_some h
 obtain ⟨x1, hx1, h⟩ := h
 refine Zo Z Z Z (ow_indexArr (R := RInt) Z Z Z (ARep.mono hl2 hp1) Tryd.underlying106 (Tryd.sizeOf3 _) hx1 fun p2 hp2 => Zo Z Z Z (Zl (R := RInt) Z Z hp2 (Tryd.sizeOf3 _) (Tryd.isAgg3 _) fun v1 hv1 => ?_))
 obtain rfl := Zi hv1
 replace h := bind_some h
 obtain ⟨x2, hx2, h⟩ := h
 refine Zo Z Z Z (ow_indexArr (R := RInt) Z Z Z (ARep.mono hl2 hp1) Tryd.underlying106 (Tryd.sizeOf3 _) hx2 fun p3 hp3 => Zo Z Z Z (Zl (R := RInt) Z Z hp3 (Tryd.sizeOf3 _) (Tryd.isAgg3 _) fun v2 hv2 => ?_))
 obtain rfl := Zi hv2
 replace h := bind_some h
 obtain ⟨x3, hx3, h⟩ := h
 refine Zo Z Z Z (ow_indexArr (R := RInt) Z Z Z (ARep.mono hl2 hp1) Tryd.underlying106 (Tryd.sizeOf3 _) hx3 fun p4 hp4 => Zo Z Z Z (Zl (R := RInt) Z Z hp4 (Tryd.sizeOf3 _) (Tryd.isAgg3 _) fun v3 hv3 => ?_))
 obtain rfl := Zi hv3
 replace h := bind_some h
 obtain ⟨x4, hx4, h⟩ := h
 refine Zo Z Z Z (ow_indexArr (R := RInt) Z Z Z (ARep.mono hl2 hp1) Tryd.underlying106 (Tryd.sizeOf3 _) hx4 fun p5 hp5 => Zo Z Z Z (Zl (R := RInt) Z Z hp5 (Tryd.sizeOf3 _) (Tryd.isAgg3 _) fun v4 hv4 => ?_))
 obtain rfl := Zi hv4
 refine Zo Z Z Z (ow_build (v := .agg #[(Zv x1), (Zv x2), (Zv x3), (Zv x4)]) Z Z (by kernel_rfl) (lw_op0 Z Z (ow_store (X := No) (us := [(Zv x1), (Zv x2), (Zv x3), (Zv x4)]) (cs' := #[(Zv x1), (Zv x2), (Zv x3), (Zv x4)]) Z Z Z Z ho1 (Tryd.sizeOf34 _) Z Z Z Z hm1 (.inl hg2) Z hC2 fun w3 ho2 hb3 hl3 hC3 => Zn (Ze (Zy ?_)))))
 have hw2 : VRep RPacket w3 (Add g1 M) ({ From := x1, To := x2, Port := x3, Proto := x4 } : Packet) (.agg #[(Zv x1), (Zv x2), (Zv x3), (Zv x4)]) := shut_Packet
 obtain rfl := sj h
 exact ew_ret (res1 Z (.cell Z (own_loadVarA ho2 (Tryd.isAgg34 _) (Tryd.sizeOf34 _) Z))) ⟨_, Z, (hw2.mono hC3.back), hC3.bx⟩

theorem w_impl_sides_firstCommon {w : World} {M : Nat → Prop} (hG : ARep (RArr 4 RShape) w M shapes ⟨0, 0, none⟩) (hO : ∀ b, M b → b < w.heap.size) {v0p : Value} {a_s : List (List Span)} (h0 : VRep (RArr 4 (RSlice RSpan)) w M a_s v0p) {v1p : Value} {a_other : List (List Span)} (h1 : VRep (RArr 4 (RSlice RSpan)) w M a_other v1p) {r : Packet × Bool} (h : F.impl_sides_firstCommon a_s a_other = some r) :
  Calls Tryd.prog 108 [v0p, v1p].toArray w fun e w' => ∃ v, e = .returned v ∧ (∃ u0 u1, v = .tuple #[u0, u1] ∧ VRep RPacket w' M r.1 u0 ∧ VRep RBool w' M r.2 u1) ∧ BX No w w' := by
 have hC : Cx No w M w M := Cx.start hO (fun _ e => e.elim)
 refine walk (N := 32) Tryd.func108 Z Tryd.ntmps108 Z (cw_seq (Zr (Zo Z Z Z (ow_box (R := (RArr 4 (RSlice RSpan))) Z Z h0 hC fun p1 w1 hp1 hb1 hl1 hC1 => Zo Z Z Z (ow_box (R := (RArr 4 (RSlice RSpan))) Z Z (VRep.mono hl1 h1) hC1 fun p2 w2 hp2 hb2 hl2 hC2 => Zo Z Z Z (ow_alloc Z (Tryd.zeroValue34 _) hC2 fun g1 w3 hg1 hg2 ho1 hb3 hl3 hC3 => ?_))))))
 have hm1 : (Add g1 M) g1 := .inl Z
 refine Zo Z Z Z (Za Z Z (Zn (Ze (cw_seq (Zr (Zo Z Z Z (ow_alloc Z (Tryd.zeroValue106 _) hC3 fun g2 w4 hg3 hg4 ho2 hb4 hl4 hC4 => ?_)))))))
 have hn1 := Nat.ne_of_lt (Nat.lt_of_lt_of_le ho1.lt hg3)
 have ho3 := ho1.no hb4
 have hm2 : (Add g2 (Add g1 M)) g1 := .inr hm1
 have hm3 : (Add g2 (Add g1 M)) g2 := .inl Z
 have ho4 : OwnA (RArr 4 RInt) w4 (Add g2 (Add g1 M)) g2 106 [0, 0, 0, 0] := OwnA.of ho2 ⟨Z, ⟨_, _, Z, (vint _).cells, _, _, Z, (vint _).cells, _, _, Z, (vint _).cells, _, _, Z, (vint _).cells, Z⟩⟩
 refine Zn (Ze (cw_seq (cw_seq (Zr (Zo Z Z Z (Zm Z Z (Zn (Ze ?_))))))))
 replace h := bind_some h
 obtain ⟨lr1, hlr1, h⟩ := h
 refine cw_for hlr1 (fun s a w' => ∃ (M' : Nat → Prop), Fits 32 [(2, (.pointer (some p1))), (3, (.pointer (some p2))), (4, (Zw g1 0)), (6, (Zw g2 0)), (10, (Zv s.1))] a ∧ Le w4 (Add g2 (Add g1 M)) w' M' ∧ Cx No w M w' M' ∧ Own w' g1 34 #[(Zv s.2.1), (Zv s.2.2.1), (Zv s.2.2.2.1), (Zv s.2.2.2.2.1)] ∧ M' g1 ∧ OwnA (RArr 4 RInt) w' M' g2 106 s.2.2.2.2.2 ∧ M' g2) ?_ ?_ ?_
 · exact fun a ha => ⟨(Add g2 (Add g1 M)), ha.sub ⟨Z, Z, Z, Z, Z, Zt⟩, Le.refl _ _, hC4, ho3, hm2, ho4, hm3⟩
 ·
  rintro ⟨k1, k2, k3, k4, k5, y1⟩ a w5 sr1 ⟨M1, hF1, hl5, hC5, ho5, hm4, ho6, hm5⟩ hb5 hR1
  refine cw_at (E := [(2, (.pointer (some p1))), (3, (.pointer (some p2))), (4, (Zw g1 0)), (6, (Zw g2 0)), (10, (Zv k1))]) hF1 (cw_seq (Zr (Zo Z Z Z (ow_lss Z Z Z fun bb1 hbb1 => Zn (Ze (cw_seq ?_))))))
  replace hb5 := Zc hb5
  rcases hb5 with ⟨hc1, hb5⟩ | ⟨hc1, hb5⟩
  ·
   obtain rfl := hbb1.trans hc1
   refine cw_true Z (cw_skip (Ze (cw_seq (cw_block (cw_seq (Zr (Zo Z Z Z (Zm Z Z (Zo Z Z Z (Za Z Z (Zn (Ze (cw_seq ?_)))))))))))))
   replace hb5 := bind_some hb5
   obtain ⟨x1, hx1, hb5⟩ := hb5
   replace hb5 := bind_some hb5
   obtain ⟨x2, hx2, hb5⟩ := hb5
   replace hb5 := bind_some hb5
   obtain ⟨x3, hx3, hb5⟩ := hb5
   have lz1 := ((((hl1.trans hl2).trans hl3).trans hl4).trans hl5)
   have lz2 := (((hl2.trans hl3).trans hl4).trans hl5)
   have lz3 := ((hl3.trans hl4).trans hl5)
   refine cw_sub (E' := [(2, (.pointer (some p1))), (3, (.pointer (some p2))), (4, (Zw g1 0)), (6, (Zw g2 0)), (7, (Zv k1)), (10, (Zv k1))]) ⟨Z, Z, Z, Z, Z, Z, Zt⟩ (cw_drawQ 11 [PEq (Zv k1), PA (RSlice RSpan) M1 x1, PV (RSlice RSpan) M1 x1, PEq (Zv k1), PA (RSlice RSpan) M1 x2, PV (RSlice RSpan) M1 x2, PT2 (PEq (Zv x3.1)) (PEq (.bool x3.2)), PT2 (PEq (Zv x3.1)) (PEq (.bool x3.2)), PEq (Zv x3.1), PEq (.bool x3.2), PEq (Zv x3.1)] (by kernel_rfl) Z (by kernel_rfl) ⟨Zq, PA.mono _ _ _, PV.mono _ _ _, Zq, PA.mono _ _ _, PV.mono _ _ _, (PT2.mono (Zq) (Zq)), (PT2.mono (Zq) (Zq)), Zq, Zq, Zq, Zt⟩ ⟨?_, ?_, ?_, ?_, ?_, ?_, ?_, ?_, ?_, ?_, ?_, Zt⟩ ?_)
   · exact fun w7 D hS1 hd1 => Zs (E' := [(7, (Zv k1))]) ⟨Z, Zt⟩ (Zp Z (Zm Z Z Zb))
   ·
    intro w8 D hS2 hd2
    have hl8 := Le.no M1 hS2
    exact Zs (E' := [(14, (Zv k1)), (2, (.pointer (some p1)))]) ⟨dpE hd2 0 Z Z, Z, Zt⟩ (Zp Z (ow_indexArr (R := (RSlice RSpan)) Z Z Z (ARep.mono (lz2.trans hl8) hp1) Tryd.underlying61 (Tryd.sizeOf59 _) hx1 fun p5 hp5 => ⟨BX.refl _ _, ⟨_, Z, hp5⟩⟩))
   ·
    intro w9 D hS3 hd3
    have d2 : PA (RSlice RSpan) M1 x1 (D 1) w9 := dpA hd3 1 Z
    obtain ⟨p6, e1, ha1⟩ := d2
    exact Zs (E' := [(15, (.pointer (some p6)))]) ⟨congrArg some e1, Zt⟩ (Zp Z (Zl (R := (RSlice RSpan)) Z Z ha1 (Tryd.sizeOf59 _) (Tryd.isAgg59 _) fun v12 hv12 => ⟨BX.refl _ _, hv12⟩))
   · exact fun w10 D hS4 hd4 => Zs (E' := [(7, (Zv k1))]) ⟨Z, Zt⟩ (Zp Z (Zm Z Z Zb))
   ·
    intro w11 D hS5 hd5
    have hl11 := Le.no M1 hS5
    exact Zs (E' := [(17, (Zv k1)), (3, (.pointer (some p2)))]) ⟨dpE hd5 3 Z Z, Z, Zt⟩ (Zp Z (ow_indexArr (R := (RSlice RSpan)) Z Z Z (ARep.mono (lz3.trans hl11) hp2) Tryd.underlying61 (Tryd.sizeOf59 _) hx2 fun p7 hp7 => ⟨BX.refl _ _, ⟨_, Z, hp7⟩⟩))
   ·
    intro w12 D hS6 hd6
    have d4 : PA (RSlice RSpan) M1 x2 (D 4) w12 := dpA hd6 4 Z
    obtain ⟨p8, e2, ha2⟩ := d4
    exact Zs (E' := [(18, (.pointer (some p8)))]) ⟨congrArg some e2, Zt⟩ (Zp Z (Zl (R := (RSlice RSpan)) Z Z ha2 (Tryd.sizeOf59 _) (Tryd.isAgg59 _) fun v13 hv13 => ⟨BX.refl _ _, hv13⟩))
   ·
    intro w13 D hS7 hd7
    have hl13 := Le.no M1 hS7
    have hC13 := hC5.no hS7
    have d5 : PV (RSlice RSpan) M1 x1 (D 2) w13 := dpA hd7 2 Z
    have d6 : PV (RSlice RSpan) M1 x2 (D 5) w13 := dpA hd7 5 Z
    generalize hq1 : (D 2) = v14 at d5
    generalize hq2 : (D 5) = v15 at d6
    refine Zs (E' := [(16, v14), (19, v15)]) ⟨congrArg some hq1, congrArg some hq2, Zt⟩ (Zp Z (Zk Z Z Tryd.call113 (w_impl_firstCommon (hG.mono (lz1.trans hl13)) hC13.old d5 d6 hx3) fun v16 w14 hv16 => ?_))
    obtain ⟨⟨v17, v18, rfl, hv17, hv18⟩, hb7⟩ := hv16
    obtain rfl := Zi hv17
    obtain ⟨bb3, hbb3, rfl⟩ := vbool_ex hv18
    exact ⟨hb7, ⟨_, _, Z, Z, (congrArg Value.bool hbb3)⟩⟩
   ·
    intro w15 D hS8 hd8
    have d7 : PT2 (PEq (Zv x3.1)) (PEq (.bool x3.2)) (D 6) w15 := dpA hd8 6 Z
    obtain ⟨v19, v20, e3, hd9, hd10⟩ := d7
    subst hd9
    obtain ⟨bb4, hq3, rfl⟩ : ∃ b, b = x3.2 ∧ v20 = .bool b := ⟨_, rfl, hd10⟩
    exact Zs (E' := [(20, (.tuple #[(Zv x3.1), (.bool bb4)]))]) ⟨congrArg some e3, Zt⟩ (Zp Z (Zm Z Z ⟨BX.refl _ _, ⟨_, _, Z, Z, (congrArg Value.bool hq3)⟩⟩))
   ·
    intro w16 D hS9 hd11
    have d8 : PT2 (PEq (Zv x3.1)) (PEq (.bool x3.2)) (D 7) w16 := dpA hd11 7 Z
    obtain ⟨v21, v22, e4, hd12, hd13⟩ := d8
    subst hd12
    obtain ⟨bb5, hq4, rfl⟩ : ∃ b, b = x3.2 ∧ v22 = .bool b := ⟨_, rfl, hd13⟩
    exact Zs (E' := [(13, (.tuple #[(Zv x3.1), (.bool bb5)]))]) ⟨congrArg some e4, Zt⟩ (Zp Z (ow_extract Z Z Z Zb))
   ·
    intro w17 D hS10 hd14
    have d9 : PT2 (PEq (Zv x3.1)) (PEq (.bool x3.2)) (D 7) w17 := dpA hd14 7 Z
    obtain ⟨v23, v24, e5, hd15, hd16⟩ := d9
    subst hd15
    obtain ⟨bb6, hq5, rfl⟩ : ∃ b, b = x3.2 ∧ v24 = .bool b := ⟨_, rfl, hd16⟩
    exact Zs (E' := [(13, (.tuple #[(Zv x3.1), (.bool bb6)]))]) ⟨congrArg some e5, Zt⟩ (Zp Z (ow_extract Z Z Z ⟨BX.refl _ _, (congrArg Value.bool hq5)⟩))
   · exact fun w18 D hS11 hd17 => Zs (E' := [(21, (Zv x3.1))]) ⟨dpE hd17 8 Z Z, Zt⟩ (Zp Z (Za Z Z Zb))
   ·
    intro w19 D hS12 hd18
    have d30 : PEq (.bool x3.2) (D 9) w19 := dpA hd18 9 Z
    have hl19 := Le.no M1 hS12
    have hC19 := hC5.no hS12
    have ho33 := ho5.no hS12
    have ho34 := ho6.no hS12 hl19
    obtain ⟨bb7, hq6, hq7⟩ : ∃ b, b = x3.2 ∧ (D 9) = .bool b := ⟨_, rfl, d30⟩
    refine lw_sub (E' := [(22, (.bool bb7)), (8, (Zv x3.1)), (2, (.pointer (some p1))), (3, (.pointer (some p2))), (4, (Zw g1 0)), (6, (Zw g2 0)), (7, (Zv k1)), (10, (Zv k1))]) ⟨congrArg some hq7, dpE hd18 10 Z Z, Z, Z, Z, Z, Z, Z, Zt⟩ (Zo Z Z Z (Za Z Z (Zn (Ze (cw_seq (cw_seq (Zr (Zo Z Z Z (Zm Z Z (Zo Z Z Z (ow_not Z Z (Zn (Ze ?_)))))))))))))
    replace hb5 := Zc hb5
    rcases hb5 with ⟨hc2, hb5⟩ | ⟨hc2, hb5⟩
    ·
     obtain rfl := hq6.trans hc2
     refine Zu Z (cw_skip (Ze (Zr (Zo Z Z Z (Zm Z Z (Zo Z Z Z (Zm Z Z ?_)))))))
     replace hb5 := bind_some hb5
     obtain ⟨x4, hx4, hb5⟩ := hb5
     refine Zo Z Z Z (ow_indexA (R := RInt) Z Z Z Z ho34 Tryd.underlying106 (Tryd.sizeOf3 _) hx4 (lw_op0 Z Z (ow_storeElA (X := No) (R := RInt) Z Z Z Z ho34 hx4 (Tryd.sizeOf3 _) (vint _) hm5 (.inl hg4) hC19 fun w20 ho35 hb8 hl20 hC20 => ?_)))
     have ho36 := ho33.go hb8 (fun e => hn1 e)
     refine Zn (ew_blockN (Ze (Zr (Zo Z Z Z (ow_add Z Z Z (Zo Z Z Z (Zm Z Z (Zn ?_))))))))
     have lz4 := ((hl5.trans hl19).trans hl20)
     exact ew_nxt ((W (k1 + 1)), k2, k3, k4, k5, (List.set y1 (k1 : Int).toNat x3.1)) hb5 fun a ha => ⟨M1, (ha.sub ⟨Z, Z, Z, Z, Z, Zt⟩), lz4, hC20, ho36, hm4, ho35, hm5⟩
    ·
     obtain rfl := hq6.trans hc2
     refine cw_true Z (cw_seq (Zr (Zo Z Z Z (ow_build (v := .agg #[(Zv 0), (Zv 0), (Zv 0), (Zv 0)]) Z Z (by kernel_rfl) (lw_op0 Z Z (ow_store (X := No) (us := [(Zv 0), (Zv 0), (Zv 0), (Zv 0)]) (cs' := #[(Zv 0), (Zv 0), (Zv 0), (Zv 0)]) Z Z Z Z ho33 (Tryd.sizeOf34 _) Z Z Z Z hm4 (.inl hg2) Z hC19 fun w21 ho37 hb9 hl21 hC21 => Zo Z Z Z (Za Z Z (Zn (Ze (Zy (Zh (ew_blockR (Zh (Zh (ew_blockR (ew_brkR (Zh ?_)))))))))))))))))
     have hw2 : VRep RPacket w21 M1 ({ From := 0, To := 0, Port := 0, Proto := 0 } : Packet) (.agg #[(Zv 0), (Zv 0), (Zv 0), (Zv 0)]) := shut_Packet
     have e6 := hR1 _ (sj hb5).symm
     subst e6
     obtain rfl := sj h
     exact ew_ret (res2 Z (.cell Z (own_loadVarA ho37 (Tryd.isAgg34 _) (Tryd.sizeOf34 _) Z)) (.tmp Z)) ⟨_, Z, ⟨_, _, Z, (hw2.mono hC21.back), ((vbool _))⟩, hC21.bx⟩
  ·
   obtain rfl := hbb1.trans hc1
   exact Zu Z (cw_exit (ew_thenX (ew_thenX (ew_blockX (ew_brk (k1, k2, k3, k4, k5, y1) hb5 fun a ha => ⟨M1, (ha.sub ⟨Z, Z, Z, Z, Z, Zt⟩), hl5, hC5, ho5, hm4, ho6, hm5⟩)))))
 ·
  rintro ⟨k6, k7, k8, k9, k10, y2⟩ a w22 hlr2 ⟨M2, hF2, hl22, hC22, ho39, hm6, ho40, hm7⟩
  subst hlr2
  refine ew_at (E := [(2, (.pointer (some p1))), (3, (.pointer (some p2))), (4, (Zw g1 0)), (6, (Zw g2 0)), (10, (Zv k6))]) hF2 (Ze (cw_seq (Zr (Zo Z Z Z (ow_loadA (R := (RArr 4 RInt)) Z Z Z ho40 (Tryd.sizeOf106 _) (Tryd.isAgg106 _) fun v31 hv31 => ?_)))))
  replace h := bind_some h
  obtain ⟨x5, hx5, h⟩ := h
  have lz5 := ((((hl1.trans hl2).trans hl3).trans hl4).trans hl22)
  refine Zo Z Z Z (Zk Z Z Tryd.call114 (w_impl_packetOf (hG.mono lz5) hC22.old hv31 hx5) fun v32 w23 hv32 => ?_)
  obtain ⟨hv32, hb10⟩ := hv32
  have hC23 := hC22.no hb10
  have ho41 := ho39.no hb10
  obtain rfl := open_Packet hv32
  refine lw_op0 Z Z (ow_store (X := No) (us := [(Zv x5.From), (Zv x5.To), (Zv x5.Port), (Zv x5.Proto)]) (cs' := #[(Zv x5.From), (Zv x5.To), (Zv x5.Port), (Zv x5.Proto)]) Z Z Z Z ho41 (Tryd.sizeOf34 _) Z Z Z Z hm6 (.inl hg2) Z hC23 fun w24 ho43 hb11 hl24 hC24 => Zo Z Z Z (Za Z Z (Zn (Ze (Zy ?_)))))
  have hw3 : VRep RPacket w24 M2 ({ From := x5.From, To := x5.To, Port := x5.Port, Proto := x5.Proto } : Packet) (.agg #[(Zv x5.From), (Zv x5.To), (Zv x5.Port), (Zv x5.Proto)]) := shut_Packet
  obtain rfl := sj h
  exact ew_ret (res2 Z (.cell Z (own_loadVarA ho43 (Tryd.isAgg34 _) (Tryd.sizeOf34 _) Z)) (.tmp Z)) ⟨_, Z, ⟨_, _, Z, (hw3.mono hC24.back), ((vbool _))⟩, hC24.bx⟩

theorem w_impl_sides_touches {w : World} {M : Nat → Prop} (hG : ARep (RArr 4 RShape) w M shapes ⟨0, 0, none⟩) (hO : ∀ b, M b → b < w.heap.size) {v0p : Value} {a_s : List (List Span)} (h0 : VRep (RArr 4 (RSlice RSpan)) w M a_s v0p) {v1p : Value} {a_other : List (List Span)} (h1 : VRep (RArr 4 (RSlice RSpan)) w M a_other v1p) {r : Bool} (h : F.impl_sides_touches a_s a_other = some r) :
  Calls Tryd.prog 96 [v0p, v1p].toArray w fun e w' => ∃ v, e = .returned v ∧ VRep RBool w' M r v ∧ BX No w w' := by
 have hC : Cx No w M w M := Cx.start hO (fun _ e => e.elim)
 refine walk (N := 14) Tryd.func96 Z Tryd.ntmps96 Z (cw_seq (Zr (Zo Z Z Z (ow_box (R := (RArr 4 (RSlice RSpan))) Z Z h0 hC fun p1 w1 hp1 hb1 hl1 hC1 => Zo Z Z Z (ow_box (R := (RArr 4 (RSlice RSpan))) Z Z (VRep.mono hl1 h1) hC1 fun p2 w2 hp2 hb2 hl2 hC2 => Zo Z Z Z (Za Z Z (Zn (Ze (cw_seq (Zr (Zo Z Z Z (Zl (R := (RArr 4 (RSlice RSpan))) Z Z (ARep.mono hl2 hp1) (Tryd.sizeOf61 _) (Tryd.isAgg61 _) fun v1 hv1 => Zo Z Z Z (Zl (R := (RArr 4 (RSlice RSpan))) Z Z hp2 (Tryd.sizeOf61 _) (Tryd.isAgg61 _) fun v2 hv2 => ?_)))))))))))))
 replace h := bind_some h
 obtain ⟨x1, hx1, h⟩ := h
 refine Zo Z Z Z (Zk Z Z Tryd.call108 (w_impl_sides_firstCommon (hG.mono (hl1.trans hl2)) hC2.old hv1 hv2 hx1) fun v3 w3 hv3 => ?_)
 obtain ⟨⟨v4, v5, rfl, hv4, hv5⟩, hb3⟩ := hv3
 have hC3 := hC2.no hb3
 obtain ⟨bb1, hbb1, rfl⟩ := vbool_ex hv5
 refine Zo Z Z Z (Zm Z Z (Zo Z Z Z (ow_extract Z Z Z (Zo Z Z Z (ow_extract Z Z Z (lw_allocStore (R := RPacket) Z Z Z Z Z Z Z Tryd.zeroValue34 Tryd.sizeOf34 Z Z Z (by simp) hv4 hC3 fun p3 w4 hp3 hb4 hl4 hC4 => Zo Z Z Z (Za Z Z (Zn (Ze (cw_seq (Zr (Zo Z Z Z (Zm Z Z (Zo Z Z Z (Za Z Z (Zn (Ze (Zy ?_))))))))))))))))))
 obtain rfl := sj h
 exact ew_ret (res1 Z (.tmp Z)) ⟨_, Z, ((vbool_of hbb1)), hC4.bx⟩

theorem w_impl_lessSpans {w : World} {M : Nat → Prop} (hG : ARep (RArr 4 RShape) w M shapes ⟨0, 0, none⟩) (hO : ∀ b, M b → b < w.heap.size) {v0p : Value} {a_a : List Span} (h0 : VRep (RSlice RSpan) w M a_a v0p) {v1p : Value} {a_b : List Span} (h1 : VRep (RSlice RSpan) w M a_b v1p) {a_top : Int} {r : (List Span) × Bool} (h : F.impl_lessSpans a_a a_b a_top = some r) :
  Calls Tryd.prog 97 [v0p, v1p, (.int .i64 a_top)].toArray w fun e w' => ∃ v, e = .returned v ∧ (∃ u0 u1, v = .tuple #[u0, u1] ∧ VRep (RSlice RSpan) w' M r.1 u0 ∧ VRep RBool w' M r.2 u1) ∧ BX No w w' := by
 have hC : Cx No w M w M := Cx.start hO (fun _ e => e.elim)
 refine walk (N := 15) Tryd.func97 Z Tryd.ntmps97 Z (cw_seq (Zr (Zo Z Z Z (Za Z Z (Zo Z Z Z (Za Z Z (Zn (Ze (cw_seq (Zr (Zo Z Z Z (Zm Z Z (Zo Z Z Z (Zm Z Z (Zo Z Z Z (Zm Z Z ?_))))))))))))))))
 replace h := bind_some h
 obtain ⟨x1, hx1, h⟩ := h
 refine Zo Z Z Z (Zk Z Z Tryd.call78 (w_impl_sweepSpans__impl_inFirstOnly hG hC.old h0 h1 hx1) fun v1 w1 hv1 => ?_)
 obtain ⟨hv1, hb1⟩ := hv1
 have hl1 := Le.no M hb1
 have hC1 := hC.no hb1
 replace h := bind_some h
 obtain ⟨x2, hx2, h⟩ := h
 refine Zo Z Z Z (Zk Z Z Tryd.call99 (w_impl_limitSpans (hG.mono hl1) hC1.old hv1 hx2) fun v2 w2 hv2 => ?_)
 obtain ⟨⟨v3, v4, rfl, hv3, hv4⟩, hb2⟩ := hv2
 have hC2 := hC1.no hb2
 obtain ⟨bb1, hbb1, rfl⟩ := vbool_ex hv4
 refine Zo Z Z Z (ow_extract Z Z Z (Zo Z Z Z (ow_extract Z Z Z (Zo Z Z Z (Za Z Z (Zo Z Z Z (Za Z Z (Zn (Ze (Zy ?_))))))))))
 obtain rfl := sj h
 exact ew_ret (res2 Z (.tmp Z) (.tmp Z)) ⟨_, Z, ⟨_, _, Z, (VRep.mono hC2.back hv3), ((vbool_of hbb1))⟩, hC2.bx⟩

theorem w_impl_sides_pieces_1 {w : World} {M : Nat → Prop} (hG : ARep (RArr 4 RShape) w M shapes ⟨0, 0, none⟩) (hO : ∀ b, M b → b < w.heap.size) {l : Nat} {J : List (List (List Span)) → (Nat → Prop) → (Nat → Prop) → World → Prop} {Jx : World → Prop} {K : Nat → Prop} (hY : Yd Tryd.prog l (RArr 4 (RSlice RSpan)) J Jx) (hJ : J [] K M w) {p1p : Addr} {a_s : List (List Span)} (hq1p : ARep (RArr 4 (RSlice RSpan)) w M a_s p1p) {p2p : Addr} {a_other : List (List Span)} (hq2p : ARep (RArr 4 (RSlice RSpan)) w M a_other p2p) {r : Bool × List (List (List Span))} (h : F.impl_sides_pieces_1 a_s a_other = some r) :
  Calls Tryd.prog 95 [(.func (.yield l) #[] #[]), (.pointer (some p1p)), (.pointer (some p2p))].toArray w fun e w' => ∃ v, e = .returned v ∧ v = .tuple #[] ∧ YEnd J Jx K w M r w' := by
 have hC : Cx K w M w M := Cx.start hO (hY.mem hJ)
 refine walk (N := 82) Tryd.func95 Z Tryd.ntmps95 Z (cw_seq (cw_seq (Zr (Zo Z Z Z (Zl (R := (RArr 4 (RSlice RSpan))) Z Z hq1p (Tryd.sizeOf61 _) (Tryd.isAgg61 _) fun v1 hv1 => ?_)))))
 replace h := bind_some h
 obtain ⟨x1, hx1, h⟩ := h
 refine Zo Z Z Z (Zk Z Z Tryd.call43 (w_impl_sides_empty hG hC.old hv1 hx1) fun v2 w1 hv2 => ?_)
 obtain ⟨hv2, hb1⟩ := hv2
 have hl1 := Le.no M hb1
 have hC1 := hC.no hb1
 have hJ1 := hY.go hJ hb1 (fun _ e => e.elim) (fun _ h => h) hl1
 obtain rfl := vbool_eq hv2
 refine Zn (Ze ?_)
 replace h := Zc h
 rcases h with ⟨hc1, h⟩ | ⟨hc1, h⟩
 ·
  subst hc1
  refine cw_true Z (Zy (Zh ?_))
  obtain rfl := sj h
  exact ew_ret (res0 Z) ⟨_, Z, Z, .inr ⟨Z, _, _, hJ1, hC1⟩⟩
 ·
  subst hc1
  refine Zu Z (cw_skip (Ze (cw_seq (cw_seq (Zr (Zo Z Z Z (Zl (R := (RArr 4 (RSlice RSpan))) Z Z (ARep.mono hl1 hq1p) (Tryd.sizeOf61 _) (Tryd.isAgg61 _) fun v3 hv3 => Zo Z Z Z (Zl (R := (RArr 4 (RSlice RSpan))) Z Z (ARep.mono hl1 hq2p) (Tryd.sizeOf61 _) (Tryd.isAgg61 _) fun v4 hv4 => ?_))))))))
  replace h := bind_some h
  obtain ⟨x2, hx2, h⟩ := h
  refine Zo Z Z Z (Zk Z Z Tryd.call96 (w_impl_sides_touches (hG.mono hl1) hC1.old hv3 hv4 hx2) fun v5 w2 hv5 => ?_)
  obtain ⟨hv5, hb2⟩ := hv5
  have hl2 := Le.no M hb2
  have hC2 := hC1.no hb2
  have hJ2 := hY.go hJ1 hb2 (fun _ e => e.elim) (fun _ h => h) hl2
  obtain rfl := vbool_eq hv5
  refine Zo Z Z Z (ow_not Z Z (Zn (Ze ?_)))
  replace h := Zc h
  rcases h with ⟨hc2, h⟩ | ⟨hc2, h⟩
  ·
   subst hc2
   refine Zu Z (cw_skip (Ze (cw_seq (Zr (Zo Z Z Z (Zl (R := (RArr 4 (RSlice RSpan))) Z Z (ARep.mono (hl1.trans hl2) hq1p) (Tryd.sizeOf61 _) (Tryd.isAgg61 _) fun v6 hv6 => Zo Z Z Z (ow_alloc Z (Tryd.zeroValue61 _) hC2 fun g1 w3 hg1 hg2 ho1 hb3 hl3 hC3 => ?_)))))))
   have hk1 := hY.free hJ2 hg1
   have hJ3 := hY.go hJ2 hb3 (fun _ e => e.elim) (fun _ h => .inr h) hl3
   have hm1 : (Add g1 M) g1 := .inl Z
   have ho2 : OwnA (RArr 4 (RSlice RSpan)) w3 (Add g1 M) g1 61 [([] : List Span), ([] : List Span), ([] : List Span), ([] : List Span)] := OwnA.of ho1 ⟨Z, ⟨_, _, Z, (vslice_nil (R := RSpan) (w := w3) (M := (Add g1 M))).cells, _, _, Z, (vslice_nil (R := RSpan) (w := w3) (M := (Add g1 M))).cells, _, _, Z, (vslice_nil (R := RSpan) (w := w3) (M := (Add g1 M))).cells, _, _, Z, (vslice_nil (R := RSpan) (w := w3) (M := (Add g1 M))).cells, Z⟩⟩
   obtain ⟨cs1, h1, h2⟩ := ho2.own
   refine lw_op0 Z Z (ow_storeA (X := K) (R := (RArr 4 (RSlice RSpan))) Z Z Z Z h1 h2 (Tryd.sizeOf61 _) (VRep.mono hl3 hv6) hm1 (.inl hg2) hC3 fun w4 ho3 hb4 hl4 hC4 => ?_)
   have hJ4 := hY.go hJ3 hb4 (fun b e h => hk1 ((show b = g1 from e) ▸ h)) (fun _ h => h) hl4
   refine Zo Z Z Z (Za Z Z (Zn (Ze (cw_seq (Zr (Zo Z Z Z (Zm Z Z (Zn (Ze ?_)))))))))
   replace h := bind_some h
   obtain ⟨lr1, hlr1, h⟩ := h
   refine cw_for hlr1 (fun s a w' => ∃ (M' : Nat → Prop) (K' : Nat → Prop), Fits 82 [(0, (.func (.yield l) #[] #[])), (1, (.pointer (some p1p))), (2, (.pointer (some p2p))), (4, (Zw g1 0)), (5, (.bool s.1)), (22, (Zv s.2.1))] a ∧ Le w4 (Add g1 M) w' M' ∧ Cx K w M w' M' ∧ OwnA (RArr 4 (RSlice RSpan)) w' M' g1 61 s.2.2.1 ∧ M' g1 ∧ J s.2.2.2 K' M' w' ∧ (∀ b, K' b → w.heap.size ≤ b ∨ K b) ∧ ¬ K' g1) ?_ ?_ ?_
   · exact fun a ha => ⟨(Add g1 M), K, ha.sub ⟨Z, Z, Z, Z, Z, Z, Zt⟩, Le.refl _ _, hC4, ho3, hm1, hJ4, (fun _ h => .inr h), hk1⟩
   ·
    rintro ⟨y1, k1, y2, y3⟩ a w5 sr1 ⟨M1, K1, hF1, hl5, hC5, ho4, hm2, hJ5, hge1, hk2⟩ hb5 hR1
    refine cw_at (E := [(0, (.func (.yield l) #[] #[])), (1, (.pointer (some p1p))), (2, (.pointer (some p2p))), (4, (Zw g1 0)), (5, (.bool y1)), (22, (Zv k1))]) hF1 (cw_seq (Zr (Zo Z Z Z (ow_lss Z Z Z fun bb1 hbb1 => Zn (Ze (cw_seq ?_))))))
    replace hb5 := Zc hb5
    rcases hb5 with ⟨hc3, hb5⟩ | ⟨hc3, hb5⟩
    ·
     obtain rfl := hbb1.trans hc3
     refine cw_true Z (cw_skip (Ze (cw_seq (cw_block (cw_seq (Zr (Zo Z Z Z (Zm Z Z (Zo Z Z Z (Za Z Z (Zn (Ze (cw_seq ?_)))))))))))))
     replace hb5 := bind_some hb5
     obtain ⟨x3, hx3, hb5⟩ := hb5
     replace hb5 := bind_some hb5
     obtain ⟨x4, hx4, hb5⟩ := hb5
     replace hb5 := bind_some hb5
     obtain ⟨x5, hx5, hb5⟩ := hb5
     replace hb5 := bind_some hb5
     obtain ⟨x6, hx6, hb5⟩ := hb5
     have lz1 := ((((hl1.trans hl2).trans hl3).trans hl4).trans hl5)
     refine cw_sub (E' := [(0, (.func (.yield l) #[] #[])), (1, (.pointer (some p1p))), (2, (.pointer (some p2p))), (4, (Zw g1 0)), (5, (.bool y1)), (6, (Zv k1)), (22, (Zv k1))]) ⟨Z, Z, Z, Z, Z, Z, Z, Zt⟩ (cw_drawQ 13 [PEq (Zv k1), PA (RSlice RSpan) M1 x3, PV (RSlice RSpan) M1 x3, PEq (Zv k1), PA (RSlice RSpan) M1 x4, PV (RSlice RSpan) M1 x4, PEq (Zv k1), PEq (Zv x5), PT2 (PV (RSlice RSpan) M1 x6.1) (PEq (.bool x6.2)), PT2 (PV (RSlice RSpan) M1 x6.1) (PEq (.bool x6.2)), PV (RSlice RSpan) M1 x6.1, PEq (.bool x6.2), PV (RSlice RSpan) M1 x6.1] (by kernel_rfl) Z (by kernel_rfl) ⟨Zq, PA.mono _ _ _, PV.mono _ _ _, Zq, PA.mono _ _ _, PV.mono _ _ _, Zq, Zq, (PT2.mono (PV.mono _ _ _) (Zq)), (PT2.mono (PV.mono _ _ _) (Zq)), PV.mono _ _ _, Zq, PV.mono _ _ _, Zt⟩ ⟨?_, ?_, ?_, ?_, ?_, ?_, ?_, ?_, ?_, ?_, ?_, ?_, ?_, Zt⟩ ?_)
     · exact fun w8 D hS1 hd1 => Zs (E' := [(6, (Zv k1))]) ⟨Z, Zt⟩ (Zp Z (Zm Z Z Zb))
     ·
      intro w9 D hS2 hd2
      have hl9 := Le.no M1 hS2
      exact Zs (E' := [(26, (Zv k1)), (1, (.pointer (some p1p)))]) ⟨dpE hd2 0 Z Z, Z, Zt⟩ (Zp Z (ow_indexArr (R := (RSlice RSpan)) Z Z Z (ARep.mono (lz1.trans hl9) hq1p) Tryd.underlying61 (Tryd.sizeOf59 _) hx3 fun p3 hp3 => ⟨BX.refl _ _, ⟨_, Z, hp3⟩⟩))
     ·
      intro w10 D hS3 hd3
      have d2 : PA (RSlice RSpan) M1 x3 (D 1) w10 := dpA hd3 1 Z
      obtain ⟨p4, e1, ha1⟩ := d2
      exact Zs (E' := [(27, (.pointer (some p4)))]) ⟨congrArg some e1, Zt⟩ (Zp Z (Zl (R := (RSlice RSpan)) Z Z ha1 (Tryd.sizeOf59 _) (Tryd.isAgg59 _) fun v17 hv17 => ⟨BX.refl _ _, hv17⟩))
     · exact fun w11 D hS4 hd4 => Zs (E' := [(6, (Zv k1))]) ⟨Z, Zt⟩ (Zp Z (Zm Z Z Zb))
     ·
      intro w12 D hS5 hd5
      have hl12 := Le.no M1 hS5
      exact Zs (E' := [(29, (Zv k1)), (2, (.pointer (some p2p)))]) ⟨dpE hd5 3 Z Z, Z, Zt⟩ (Zp Z (ow_indexArr (R := (RSlice RSpan)) Z Z Z (ARep.mono (lz1.trans hl12) hq2p) Tryd.underlying61 (Tryd.sizeOf59 _) hx4 fun p5 hp5 => ⟨BX.refl _ _, ⟨_, Z, hp5⟩⟩))
     ·
      intro w13 D hS6 hd6
      have d4 : PA (RSlice RSpan) M1 x4 (D 4) w13 := dpA hd6 4 Z
      obtain ⟨p6, e2, ha2⟩ := d4
      exact Zs (E' := [(30, (.pointer (some p6)))]) ⟨congrArg some e2, Zt⟩ (Zp Z (Zl (R := (RSlice RSpan)) Z Z ha2 (Tryd.sizeOf59 _) (Tryd.isAgg59 _) fun v18 hv18 => ⟨BX.refl _ _, hv18⟩))
     · exact fun w14 D hS7 hd7 => Zs (E' := [(6, (Zv k1))]) ⟨Z, Zt⟩ (Zp Z (Zm Z Z Zb))
     ·
      intro w15 D hS8 hd8
      have hl15 := Le.no M1 hS8
      have hC15 := hC5.no hS8
      refine Zs (E' := [(32, (Zv k1))]) ⟨dpE hd8 6 Z Z, Zt⟩ (Zp Z (Zk Z Z Tryd.call68 (w_impl_FieldTop (hG.mono (lz1.trans hl15)) hC15.old hx5) fun v19 w16 hv19 => ?_))
      obtain ⟨hv19, hb8⟩ := hv19
      obtain rfl := Zi hv19
      exact ⟨hb8, Z⟩
     ·
      intro w17 D hS9 hd9
      have hl17 := Le.no M1 hS9
      have hC17 := hC5.no hS9
      have d6 : PV (RSlice RSpan) M1 x3 (D 2) w17 := dpA hd9 2 Z
      have d7 : PV (RSlice RSpan) M1 x4 (D 5) w17 := dpA hd9 5 Z
      generalize hq1 : (D 2) = v20 at d6
      generalize hq2 : (D 5) = v21 at d7
      refine Zs (E' := [(28, v20), (31, v21), (33, (Zv x5))]) ⟨congrArg some hq1, congrArg some hq2, dpE hd9 7 Z Z, Zt⟩ (Zp Z (Zk Z Z Tryd.call97 (w_impl_lessSpans (hG.mono (lz1.trans hl17)) hC17.old d6 d7 hx6) fun v22 w18 hv22 => ?_))
      obtain ⟨⟨v23, v24, rfl, hv23, hv24⟩, hb9⟩ := hv22
      obtain ⟨bb3, hbb3, rfl⟩ := vbool_ex hv24
      exact ⟨hb9, ⟨_, _, Z, hv23, (congrArg Value.bool hbb3)⟩⟩
     ·
      intro w19 D hS10 hd10
      have d10 : PT2 (PV (RSlice RSpan) M1 x6.1) (PEq (.bool x6.2)) (D 8) w19 := dpA hd10 8 Z
      obtain ⟨v25, v26, e3, hd11, hd12⟩ := d10
      obtain ⟨bb4, hq3, rfl⟩ : ∃ b, b = x6.2 ∧ v26 = .bool b := ⟨_, rfl, hd12⟩
      exact Zs (E' := [(34, (.tuple #[v25, (.bool bb4)]))]) ⟨congrArg some e3, Zt⟩ (Zp Z (Zm Z Z ⟨BX.refl _ _, ⟨_, _, Z, hd11, (congrArg Value.bool hq3)⟩⟩))
     ·
      intro w20 D hS11 hd13
      have d11 : PT2 (PV (RSlice RSpan) M1 x6.1) (PEq (.bool x6.2)) (D 9) w20 := dpA hd13 9 Z
      obtain ⟨v27, v28, e4, hd14, hd15⟩ := d11
      obtain ⟨bb5, hq4, rfl⟩ : ∃ b, b = x6.2 ∧ v28 = .bool b := ⟨_, rfl, hd15⟩
      exact Zs (E' := [(25, (.tuple #[v27, (.bool bb5)]))]) ⟨congrArg some e4, Zt⟩ (Zp Z (ow_extract Z Z Z ⟨BX.refl _ _, hd14⟩))
     ·
      intro w21 D hS12 hd16
      have d12 : PT2 (PV (RSlice RSpan) M1 x6.1) (PEq (.bool x6.2)) (D 9) w21 := dpA hd16 9 Z
      obtain ⟨v29, v30, e5, hd17, hd18⟩ := d12
      obtain ⟨bb6, hq5, rfl⟩ : ∃ b, b = x6.2 ∧ v30 = .bool b := ⟨_, rfl, hd18⟩
      exact Zs (E' := [(25, (.tuple #[v29, (.bool bb6)]))]) ⟨congrArg some e5, Zt⟩ (Zp Z (ow_extract Z Z Z ⟨BX.refl _ _, (congrArg Value.bool hq5)⟩))
     ·
      intro w22 D hS13 hd19
      have d13 : PV (RSlice RSpan) M1 x6.1 (D 10) w22 := dpA hd19 10 Z
      generalize hq6 : (D 10) = v31 at d13
      exact Zs (E' := [(35, v31)]) ⟨congrArg some hq6, Zt⟩ (Zp Z (Za Z Z ⟨BX.refl _ _, d13⟩))
     ·
      intro w23 D hS14 hd20
      have d37 : PEq (.bool x6.2) (D 11) w23 := dpA hd20 11 Z
      have d38 : PV (RSlice RSpan) M1 x6.1 (D 12) w23 := dpA hd20 12 Z
      have hl23 := Le.no M1 hS14
      have hC23 := hC5.no hS14
      have hJ23 := hY.go hJ5 hS14 (fun _ e => e.elim) (fun _ h => h) hl23
      have ho22 := ho4.no hS14 hl23
      obtain ⟨bb7, hq7, hq8⟩ : ∃ b, b = x6.2 ∧ (D 11) = .bool b := ⟨_, rfl, d37⟩
      generalize hq9 : (D 12) = v32 at d38
      refine lw_sub (E' := [(36, (.bool bb7)), (7, v32), (0, (.func (.yield l) #[] #[])), (1, (.pointer (some p1p))), (2, (.pointer (some p2p))), (4, (Zw g1 0)), (5, (.bool y1)), (6, (Zv k1)), (22, (Zv k1))]) ⟨congrArg some hq8, congrArg some hq9, Z, Z, Z, Z, Z, Z, Z, Zt⟩ (Zo Z Z Z (Za Z Z (Zn (Ze (cw_seq (cw_seq (Zr (Zo Z Z Z (Zm Z Z (Zo Z Z Z (ow_not Z Z (Zo Z Z Z (Zm Z Z ?_)))))))))))))
      replace hb5 := Zc hb5
      rcases hb5 with ⟨hc4, hb5⟩ | ⟨hc4, hb5⟩
      ·
       obtain rfl := hq7.trans hc4
       refine lw_on Z Z Z Z Z Z (Zm Z Z (lw_on Z Z Z Z Z Z (ow_len Z Z d38 Tryd.underlying59 Z (lw_on Z Z Z Z Z Z (ow_gtr Z Z Z fun bb8 hbb8 => lw_on Z Z Z Z Z Z (Zm Z Z ?_))))))
       replace hb5 := Zc hb5
       rcases hb5 with ⟨hc5, hb5⟩ | ⟨hc5, hb5⟩
       ·
        obtain rfl := hbb8.trans hc5
        refine lw_on Z Z Z Z Z Z (Zm Z Z (lw_on Z Z Z Z Z Z (ow_not Z Z (lw_on Z Z Z Z Z Z (ow_pickT Z Z Z (Zo Z Z Z (ow_pickF Z Z Z (Zn (Ze ?_)))))))))
        replace hb5 := Zc hb5
        rcases hb5 with ⟨hc6, hb5⟩ | ⟨hc6, hb5⟩
        ·
         subst hc6
         refine Zu Z (cw_skip (Ze (cw_seq (cw_seq (Zr (Zo Z Z Z (Zm Z Z (Zo Z Z Z (ow_len Z Z d38 Tryd.underlying59 Z (Zo Z Z Z (ow_gtr Z Z Z fun bb9 hbb9 => ?_)))))))))))
         obtain rfl := hbb9.trans hc5
         refine Zn (Ze (cw_true Z (cw_seq (Zr (Zo Z Z Z (ow_loadA (R := (RArr 4 (RSlice RSpan))) Z Z Z ho22 (Tryd.sizeOf61 _) (Tryd.isAgg61 _) fun v33 hv33 => Zo Z Z Z (ow_alloc Z (Tryd.zeroValue61 _) hC23 fun g2 w24 hg3 hg4 ho23 hb10 hl24 hC24 => ?_)))))))
         have hk3 := hY.free hJ23 hg3
         have hJ24 := hY.go hJ23 hb10 (fun _ e => e.elim) (fun _ h => .inr h) hl24
         have hn1 := Nat.ne_of_lt (Nat.lt_of_lt_of_le ho22.lt hg3)
         have ho24 := ho22.no hb10 hl24
         have hm3 : (Add g2 M1) g1 := .inr hm2
         have hm4 : (Add g2 M1) g2 := .inl Z
         have ho25 : OwnA (RArr 4 (RSlice RSpan)) w24 (Add g2 M1) g2 61 [([] : List Span), ([] : List Span), ([] : List Span), ([] : List Span)] := OwnA.of ho23 ⟨Z, ⟨_, _, Z, (vslice_nil (R := RSpan) (w := w24) (M := (Add g2 M1))).cells, _, _, Z, (vslice_nil (R := RSpan) (w := w24) (M := (Add g2 M1))).cells, _, _, Z, (vslice_nil (R := RSpan) (w := w24) (M := (Add g2 M1))).cells, _, _, Z, (vslice_nil (R := RSpan) (w := w24) (M := (Add g2 M1))).cells, Z⟩⟩
         obtain ⟨cs2, h3, h4⟩ := ho25.own
         refine lw_op0 Z Z (ow_storeA (X := K) (R := (RArr 4 (RSlice RSpan))) Z Z Z Z h3 h4 (Tryd.sizeOf61 _) (VRep.mono hl24 hv33) hm4 (.inl hg4) hC24 fun w25 ho26 hb11 hl25 hC25 => ?_)
         have hJ25 := hY.go hJ24 hb11 (fun b e h => hk3 ((show b = g2 from e) ▸ h)) (fun _ h => h) hl25
         have ho27 := ho24.go hb11 (fun e => hn1 e) hl25
         refine Zn (Ze (cw_seq (Zr (Zo Z Z Z (Zm Z Z (Zo Z Z Z (Zm Z Z ?_)))))))
         replace hb5 := bind_some hb5
         obtain ⟨x7, hx7, hb5⟩ := hb5
         refine Zo Z Z Z (ow_indexA (R := (RSlice RSpan)) Z Z Z Z ho26 Tryd.underlying61 (Tryd.sizeOf59 _) hx7 (lw_op0 Z Z (ow_storeElA (X := K) (R := (RSlice RSpan)) Z Z Z Z ho26 hx7 (Tryd.sizeOf59 _) (VRep.mono (hl24.trans hl25) d38) hm4 (.inl hg4) hC25 fun w26 ho28 hb12 hl26 hC26 => ?_)))
         have hJ26 := hY.go hJ25 hb12 (fun b e h => hk3 ((show b = g2 from e) ▸ h)) (fun _ h => h) hl26
         have ho29 := ho27.go hb12 (fun e => hn1 e) hl26
         refine Zn (Ze (cw_seq (cw_regionY 1 (lg_op Z Z Z Z (Zm Z Z (lg_op Z Z Z Z (ow_loadA (R := (RArr 4 (RSlice RSpan))) Z Z Z ho28 (Tryd.sizeOf61 _) (Tryd.isAgg61 _) fun v34 hv34 => ?_)))))))
         replace hb5 := bind_some hb5
         obtain ⟨z1, hz1, hb5⟩ := hb5
         refine lg_yes hY Z Z Z Z Z Z hJ26 hv34 hz1 hC26 hge1 fun w27 K2 M2 hJ27 hb13 hl27 hC27 hM1 hk4 hge2 => ?_
         have hk5 := hk4 _ ho29.lt hk2
         have ho30 := ho29.go hb13 hk2 hl27
         have hm5 := hM1 _ hm3
         refine lg_op Z Z Z Z (ow_not Z Z (lg_end (Ze (Zu Z (cw_skip (Ze (cw_seq ?_)))))))
         replace hb5 := bind_some hb5
         obtain ⟨x8, hx8, hb5⟩ := hb5
         have lz2 := (((((lz1.trans hl23).trans hl24).trans hl25).trans hl26).trans hl27)
         refine cw_sub (E' := [(0, (.func (.yield l) #[] #[])), (1, (.pointer (some p1p))), (2, (.pointer (some p2p))), (4, (Zw g1 0)), (5, (.bool true)), (6, (Zv k1)), (22, (Zv k1))]) ⟨Z, Z, Z, Z, Z, Z, Z, Zt⟩ (cw_drawQ 13 [PEq (Zv k1), PA (RSlice RSpan) M2 x3, PV (RSlice RSpan) M2 x3, PEq (Zv k1), PA (RSlice RSpan) M2 x4, PV (RSlice RSpan) M2 x4, PEq (Zv k1), PEq (Zv x5), PT2 (PV (RSlice RSpan) M2 x8.1) (PEq (.bool x8.2)), PT2 (PV (RSlice RSpan) M2 x8.1) (PEq (.bool x8.2)), PV (RSlice RSpan) M2 x8.1, PEq (.bool x8.2), PV (RSlice RSpan) M2 x8.1] (by kernel_rfl) Z (by kernel_rfl) ⟨Zq, PA.mono _ _ _, PV.mono _ _ _, Zq, PA.mono _ _ _, PV.mono _ _ _, Zq, Zq, (PT2.mono (PV.mono _ _ _) (Zq)), (PT2.mono (PV.mono _ _ _) (Zq)), PV.mono _ _ _, Zq, PV.mono _ _ _, Zt⟩ ⟨?_, ?_, ?_, ?_, ?_, ?_, ?_, ?_, ?_, ?_, ?_, ?_, ?_, Zt⟩ ?_)
         · exact fun w30 D hS15 hd21 => Zs (E' := [(6, (Zv k1))]) ⟨Z, Zt⟩ (Zp Z (Zm Z Z Zb))
         ·
          intro w31 D hS16 hd22
          have hl31 := Le.no M2 hS16
          exact Zs (E' := [(63, (Zv k1)), (1, (.pointer (some p1p)))]) ⟨dpE hd22 0 Z Z, Z, Zt⟩ (Zp Z (ow_indexArr (R := (RSlice RSpan)) Z Z Z (ARep.mono (lz2.trans hl31) hq1p) Tryd.underlying61 (Tryd.sizeOf59 _) hx3 fun p9 hp9 => ⟨BX.refl _ _, ⟨_, Z, hp9⟩⟩))
         ·
          intro w32 D hS17 hd23
          have d40 : PA (RSlice RSpan) M2 x3 (D 1) w32 := dpA hd23 1 Z
          obtain ⟨p10, e6, ha3⟩ := d40
          exact Zs (E' := [(64, (.pointer (some p10)))]) ⟨congrArg some e6, Zt⟩ (Zp Z (Zl (R := (RSlice RSpan)) Z Z ha3 (Tryd.sizeOf59 _) (Tryd.isAgg59 _) fun v41 hv41 => ⟨BX.refl _ _, hv41⟩))
         · exact fun w33 D hS18 hd24 => Zs (E' := [(6, (Zv k1))]) ⟨Z, Zt⟩ (Zp Z (Zm Z Z Zb))
         ·
          intro w34 D hS19 hd25
          have hl34 := Le.no M2 hS19
          exact Zs (E' := [(66, (Zv k1)), (2, (.pointer (some p2p)))]) ⟨dpE hd25 3 Z Z, Z, Zt⟩ (Zp Z (ow_indexArr (R := (RSlice RSpan)) Z Z Z (ARep.mono (lz2.trans hl34) hq2p) Tryd.underlying61 (Tryd.sizeOf59 _) hx4 fun p11 hp11 => ⟨BX.refl _ _, ⟨_, Z, hp11⟩⟩))
         ·
          intro w35 D hS20 hd26
          have d42 : PA (RSlice RSpan) M2 x4 (D 4) w35 := dpA hd26 4 Z
          obtain ⟨p12, e7, ha4⟩ := d42
          exact Zs (E' := [(67, (.pointer (some p12)))]) ⟨congrArg some e7, Zt⟩ (Zp Z (Zl (R := (RSlice RSpan)) Z Z ha4 (Tryd.sizeOf59 _) (Tryd.isAgg59 _) fun v42 hv42 => ⟨BX.refl _ _, hv42⟩))
         · exact fun w36 D hS21 hd27 => Zs (E' := [(6, (Zv k1))]) ⟨Z, Zt⟩ (Zp Z (Zm Z Z Zb))
         ·
          intro w37 D hS22 hd28
          have hl37 := Le.no M2 hS22
          have hC37 := hC27.no hS22
          refine Zs (E' := [(69, (Zv k1))]) ⟨dpE hd28 6 Z Z, Zt⟩ (Zp Z (Zk Z Z Tryd.call68 (w_impl_FieldTop (hG.mono (lz2.trans hl37)) hC37.old hx5) fun v43 w38 hv43 => ?_))
          obtain ⟨hv43, hb16⟩ := hv43
          obtain rfl := Zi hv43
          exact ⟨hb16, Z⟩
         ·
          intro w39 D hS23 hd29
          have hl39 := Le.no M2 hS23
          have hC39 := hC27.no hS23
          have d44 : PV (RSlice RSpan) M2 x3 (D 2) w39 := dpA hd29 2 Z
          have d45 : PV (RSlice RSpan) M2 x4 (D 5) w39 := dpA hd29 5 Z
          generalize hq10 : (D 2) = v44 at d44
          generalize hq11 : (D 5) = v45 at d45
          refine Zs (E' := [(65, v44), (68, v45), (70, (Zv x5))]) ⟨congrArg some hq10, congrArg some hq11, dpE hd29 7 Z Z, Zt⟩ (Zp Z (Zk Z Z Tryd.call80 (w_impl_meetSpans (hG.mono (lz2.trans hl39)) hC39.old d44 d45 hx8) fun v46 w40 hv46 => ?_))
          obtain ⟨⟨v47, v48, rfl, hv47, hv48⟩, hb17⟩ := hv46
          obtain ⟨bb11, hbb11, rfl⟩ := vbool_ex hv48
          exact ⟨hb17, ⟨_, _, Z, hv47, (congrArg Value.bool hbb11)⟩⟩
         ·
          intro w41 D hS24 hd30
          have d48 : PT2 (PV (RSlice RSpan) M2 x8.1) (PEq (.bool x8.2)) (D 8) w41 := dpA hd30 8 Z
          obtain ⟨v49, v50, e8, hd31, hd32⟩ := d48
          obtain ⟨bb12, hq12, rfl⟩ : ∃ b, b = x8.2 ∧ v50 = .bool b := ⟨_, rfl, hd32⟩
          exact Zs (E' := [(71, (.tuple #[v49, (.bool bb12)]))]) ⟨congrArg some e8, Zt⟩ (Zp Z (Zm Z Z ⟨BX.refl _ _, ⟨_, _, Z, hd31, (congrArg Value.bool hq12)⟩⟩))
         ·
          intro w42 D hS25 hd33
          have d49 : PT2 (PV (RSlice RSpan) M2 x8.1) (PEq (.bool x8.2)) (D 9) w42 := dpA hd33 9 Z
          obtain ⟨v51, v52, e9, hd34, hd35⟩ := d49
          obtain ⟨bb13, hq13, rfl⟩ : ∃ b, b = x8.2 ∧ v52 = .bool b := ⟨_, rfl, hd35⟩
          exact Zs (E' := [(62, (.tuple #[v51, (.bool bb13)]))]) ⟨congrArg some e9, Zt⟩ (Zp Z (ow_extract Z Z Z ⟨BX.refl _ _, hd34⟩))
         ·
          intro w43 D hS26 hd36
          have d50 : PT2 (PV (RSlice RSpan) M2 x8.1) (PEq (.bool x8.2)) (D 9) w43 := dpA hd36 9 Z
          obtain ⟨v53, v54, e10, hd37, hd38⟩ := d50
          obtain ⟨bb14, hq14, rfl⟩ : ∃ b, b = x8.2 ∧ v54 = .bool b := ⟨_, rfl, hd38⟩
          exact Zs (E' := [(62, (.tuple #[v53, (.bool bb14)]))]) ⟨congrArg some e10, Zt⟩ (Zp Z (ow_extract Z Z Z ⟨BX.refl _ _, (congrArg Value.bool hq14)⟩))
         ·
          intro w44 D hS27 hd39
          have d51 : PV (RSlice RSpan) M2 x8.1 (D 10) w44 := dpA hd39 10 Z
          generalize hq15 : (D 10) = v55 at d51
          exact Zs (E' := [(72, v55)]) ⟨congrArg some hq15, Zt⟩ (Zp Z (Za Z Z ⟨BX.refl _ _, d51⟩))
         ·
          intro w45 D hS28 hd40
          have d75 : PEq (.bool x8.2) (D 11) w45 := dpA hd40 11 Z
          have d76 : PV (RSlice RSpan) M2 x8.1 (D 12) w45 := dpA hd40 12 Z
          have hl45 := Le.no M2 hS28
          have hC45 := hC27.no hS28
          have hJ45 := hY.go hJ27 hS28 (fun _ e => e.elim) (fun _ h => h) hl45
          have ho66 := ho30.no hS28 hl45
          obtain ⟨bb15, hq16, hq17⟩ : ∃ b, b = x8.2 ∧ (D 11) = .bool b := ⟨_, rfl, d75⟩
          generalize hq18 : (D 12) = v56 at d76
          refine lw_sub (E' := [(73, (.bool bb15)), (10, v56), (0, (.func (.yield l) #[] #[])), (1, (.pointer (some p1p))), (2, (.pointer (some p2p))), (4, (Zw g1 0)), (5, (.bool true)), (6, (Zv k1)), (22, (Zv k1))]) ⟨congrArg some hq17, congrArg some hq18, Z, Z, Z, Z, Z, Z, Z, Zt⟩ (Zo Z Z Z (Za Z Z (Zn (Ze (cw_seq (Zr (Zo Z Z Z (Zm Z Z (Zo Z Z Z (Zm Z Z (Zo Z Z Z (ow_indexA (R := (RSlice RSpan)) Z Z Z Z ho66 Tryd.underlying61 (Tryd.sizeOf59 _) hx7 (lw_op0 Z Z (ow_storeElA (X := K) (R := (RSlice RSpan)) Z Z Z Z ho66 hx7 (Tryd.sizeOf59 _) d76 hm5 (.inl hg2) hC45 fun w46 ho68 hb18 hl46 hC46 => ?_))))))))))))))
          have hJ46 := hY.go hJ45 hb18 (fun b e h => hk5 ((show b = g1 from e) ▸ h)) (fun _ h => h) hl46
          refine Zn (Ze (Zr (Zo Z Z Z (Zm Z Z (Zo Z Z Z (Zm Z Z (lw_on Z Z Z Z Z Z (Zm Z Z (Zo Z Z Z (ow_pickT Z Z Z (Zo Z Z Z (Za Z Z (Zn (ew_blockN (Ze (Zr (Zo Z Z Z (ow_add Z Z Z (Zo Z Z Z (Zm Z Z (Zn ?_)))))))))))))))))))))
          have lz4 := (((((((hl5.trans hl23).trans hl24).trans hl25).trans hl26).trans hl27).trans hl45).trans hl46)
          refine ew_nxt (x8.2, (W (k1 + 1)), (List.set y2 (k1 : Int).toNat x8.1), z1) hb5 fun a ha => ⟨M2, K2, ?_, lz4, hC46, ho68, hm5, hJ46, hge2, hk5⟩
          rw [hq16] at ha
          exact ha.sub ⟨Z, Z, Z, Z, Z, Z, Zt⟩
        ·
         subst hc6
         refine cw_true Z (cw_seq (cw_regionY 1 (lg_op Z Z Z Z (Zm Z Z (lg_op Z Z Z Z (ow_build (v := .agg #[(.slice none 0 0), (.slice none 0 0), (.slice none 0 0), (.slice none 0 0)]) Z Z (by kernel_rfl) ?_))))))
         have hw1 : VRep (RArr 4 (RSlice RSpan)) w23 M1 [([] : List Span), ([] : List Span), ([] : List Span), ([] : List Span)] (.agg #[(.slice none 0 0), (.slice none 0 0), (.slice none 0 0), (.slice none 0 0)]) := ⟨_, ⟨Z, ⟨_, _, Z, (vslice_nil (R := RSpan) (w := w23) (M := M1)).cells, _, _, Z, (vslice_nil (R := RSpan) (w := w23) (M := M1)).cells, _, _, Z, (vslice_nil (R := RSpan) (w := w23) (M := M1)).cells, _, _, Z, (vslice_nil (R := RSpan) (w := w23) (M := M1)).cells, Z⟩⟩, Z⟩
         refine lg_no hY Z Z Z Z Z Z hJ23 hw1 hC23 hge1 fun w47 hx1 hx1c => lg_end (Ze (Zy (Zh (ew_blockR (Zh (Zh (ew_blockR (ew_brkR ?_))))))))
         have e11 := hR1 _ (sj hb5).symm
         subst e11
         obtain rfl := sj h
         exact ew_ret (res0 Z) ⟨_, Z, Z, .inl ⟨Z, hx1, hx1c.bx⟩⟩
       ·
        obtain rfl := hbb8.trans hc5
        refine lw_off Z Z Z Z Z Z (lw_off Z Z Z Z Z Z (lw_on Z Z Z Z Z Z (ow_pickF Z Z Z (Zo Z Z Z (ow_pickF Z Z Z (Zn (Ze (Zu Z (cw_skip (Ze (cw_seq (cw_seq (Zr (Zo Z Z Z (Zm Z Z (Zo Z Z Z (ow_len Z Z d38 Tryd.underlying59 Z (Zo Z Z Z (ow_gtr Z Z Z fun bb16 hbb16 => ?_)))))))))))))))))))
        obtain rfl := hbb16.trans hc5
        refine Zn (Ze (Zu Z (cw_skip (Ze (cw_seq ?_)))))
        replace hb5 := bind_some hb5
        obtain ⟨x9, hx9, hb5⟩ := hb5
        have lz5 := (lz1.trans hl23)
        refine cw_sub (E' := [(0, (.func (.yield l) #[] #[])), (1, (.pointer (some p1p))), (2, (.pointer (some p2p))), (4, (Zw g1 0)), (5, (.bool y1)), (6, (Zv k1)), (22, (Zv k1))]) ⟨Z, Z, Z, Z, Z, Z, Z, Zt⟩ (cw_drawQ 13 [PEq (Zv k1), PA (RSlice RSpan) M1 x3, PV (RSlice RSpan) M1 x3, PEq (Zv k1), PA (RSlice RSpan) M1 x4, PV (RSlice RSpan) M1 x4, PEq (Zv k1), PEq (Zv x5), PT2 (PV (RSlice RSpan) M1 x9.1) (PEq (.bool x9.2)), PT2 (PV (RSlice RSpan) M1 x9.1) (PEq (.bool x9.2)), PV (RSlice RSpan) M1 x9.1, PEq (.bool x9.2), PV (RSlice RSpan) M1 x9.1] (by kernel_rfl) Z (by kernel_rfl) ⟨Zq, PA.mono _ _ _, PV.mono _ _ _, Zq, PA.mono _ _ _, PV.mono _ _ _, Zq, Zq, (PT2.mono (PV.mono _ _ _) (Zq)), (PT2.mono (PV.mono _ _ _) (Zq)), PV.mono _ _ _, Zq, PV.mono _ _ _, Zt⟩ ⟨?_, ?_, ?_, ?_, ?_, ?_, ?_, ?_, ?_, ?_, ?_, ?_, ?_, Zt⟩ ?_)
        · exact fun w50 D hS29 hd41 => Zs (E' := [(6, (Zv k1))]) ⟨Z, Zt⟩ (Zp Z (Zm Z Z Zb))
        ·
         intro w51 D hS30 hd42
         have hl50 := Le.no M1 hS30
         exact Zs (E' := [(63, (Zv k1)), (1, (.pointer (some p1p)))]) ⟨dpE hd42 0 Z Z, Z, Zt⟩ (Zp Z (ow_indexArr (R := (RSlice RSpan)) Z Z Z (ARep.mono (lz5.trans hl50) hq1p) Tryd.underlying61 (Tryd.sizeOf59 _) hx3 fun p15 hp15 => ⟨BX.refl _ _, ⟨_, Z, hp15⟩⟩))
        ·
         intro w52 D hS31 hd43
         have d78 : PA (RSlice RSpan) M1 x3 (D 1) w52 := dpA hd43 1 Z
         obtain ⟨p16, e12, ha5⟩ := d78
         exact Zs (E' := [(64, (.pointer (some p16)))]) ⟨congrArg some e12, Zt⟩ (Zp Z (Zl (R := (RSlice RSpan)) Z Z ha5 (Tryd.sizeOf59 _) (Tryd.isAgg59 _) fun v63 hv63 => ⟨BX.refl _ _, hv63⟩))
        · exact fun w53 D hS32 hd44 => Zs (E' := [(6, (Zv k1))]) ⟨Z, Zt⟩ (Zp Z (Zm Z Z Zb))
        ·
         intro w54 D hS33 hd45
         have hl53 := Le.no M1 hS33
         exact Zs (E' := [(66, (Zv k1)), (2, (.pointer (some p2p)))]) ⟨dpE hd45 3 Z Z, Z, Zt⟩ (Zp Z (ow_indexArr (R := (RSlice RSpan)) Z Z Z (ARep.mono (lz5.trans hl53) hq2p) Tryd.underlying61 (Tryd.sizeOf59 _) hx4 fun p17 hp17 => ⟨BX.refl _ _, ⟨_, Z, hp17⟩⟩))
        ·
         intro w55 D hS34 hd46
         have d80 : PA (RSlice RSpan) M1 x4 (D 4) w55 := dpA hd46 4 Z
         obtain ⟨p18, e13, ha6⟩ := d80
         exact Zs (E' := [(67, (.pointer (some p18)))]) ⟨congrArg some e13, Zt⟩ (Zp Z (Zl (R := (RSlice RSpan)) Z Z ha6 (Tryd.sizeOf59 _) (Tryd.isAgg59 _) fun v64 hv64 => ⟨BX.refl _ _, hv64⟩))
        · exact fun w56 D hS35 hd47 => Zs (E' := [(6, (Zv k1))]) ⟨Z, Zt⟩ (Zp Z (Zm Z Z Zb))
        ·
         intro w57 D hS36 hd48
         have hl56 := Le.no M1 hS36
         have hC56 := hC23.no hS36
         refine Zs (E' := [(69, (Zv k1))]) ⟨dpE hd48 6 Z Z, Zt⟩ (Zp Z (Zk Z Z Tryd.call68 (w_impl_FieldTop (hG.mono (lz5.trans hl56)) hC56.old hx5) fun v65 w58 hv65 => ?_))
         obtain ⟨hv65, hb21⟩ := hv65
         obtain rfl := Zi hv65
         exact ⟨hb21, Z⟩
        ·
         intro w59 D hS37 hd49
         have hl58 := Le.no M1 hS37
         have hC58 := hC23.no hS37
         have d82 : PV (RSlice RSpan) M1 x3 (D 2) w59 := dpA hd49 2 Z
         have d83 : PV (RSlice RSpan) M1 x4 (D 5) w59 := dpA hd49 5 Z
         generalize hq19 : (D 2) = v66 at d82
         generalize hq20 : (D 5) = v67 at d83
         refine Zs (E' := [(65, v66), (68, v67), (70, (Zv x5))]) ⟨congrArg some hq19, congrArg some hq20, dpE hd49 7 Z Z, Zt⟩ (Zp Z (Zk Z Z Tryd.call80 (w_impl_meetSpans (hG.mono (lz5.trans hl58)) hC58.old d82 d83 hx9) fun v68 w60 hv68 => ?_))
         obtain ⟨⟨v69, v70, rfl, hv69, hv70⟩, hb22⟩ := hv68
         obtain ⟨bb18, hbb18, rfl⟩ := vbool_ex hv70
         exact ⟨hb22, ⟨_, _, Z, hv69, (congrArg Value.bool hbb18)⟩⟩
        ·
         intro w61 D hS38 hd50
         have d86 : PT2 (PV (RSlice RSpan) M1 x9.1) (PEq (.bool x9.2)) (D 8) w61 := dpA hd50 8 Z
         obtain ⟨v71, v72, e14, hd51, hd52⟩ := d86
         obtain ⟨bb19, hq21, rfl⟩ : ∃ b, b = x9.2 ∧ v72 = .bool b := ⟨_, rfl, hd52⟩
         exact Zs (E' := [(71, (.tuple #[v71, (.bool bb19)]))]) ⟨congrArg some e14, Zt⟩ (Zp Z (Zm Z Z ⟨BX.refl _ _, ⟨_, _, Z, hd51, (congrArg Value.bool hq21)⟩⟩))
        ·
         intro w62 D hS39 hd53
         have d87 : PT2 (PV (RSlice RSpan) M1 x9.1) (PEq (.bool x9.2)) (D 9) w62 := dpA hd53 9 Z
         obtain ⟨v73, v74, e15, hd54, hd55⟩ := d87
         obtain ⟨bb20, hq22, rfl⟩ : ∃ b, b = x9.2 ∧ v74 = .bool b := ⟨_, rfl, hd55⟩
         exact Zs (E' := [(62, (.tuple #[v73, (.bool bb20)]))]) ⟨congrArg some e15, Zt⟩ (Zp Z (ow_extract Z Z Z ⟨BX.refl _ _, hd54⟩))
        ·
         intro w63 D hS40 hd56
         have d88 : PT2 (PV (RSlice RSpan) M1 x9.1) (PEq (.bool x9.2)) (D 9) w63 := dpA hd56 9 Z
         obtain ⟨v75, v76, e16, hd57, hd58⟩ := d88
         obtain ⟨bb21, hq23, rfl⟩ : ∃ b, b = x9.2 ∧ v76 = .bool b := ⟨_, rfl, hd58⟩
         exact Zs (E' := [(62, (.tuple #[v75, (.bool bb21)]))]) ⟨congrArg some e16, Zt⟩ (Zp Z (ow_extract Z Z Z ⟨BX.refl _ _, (congrArg Value.bool hq23)⟩))
        ·
         intro w64 D hS41 hd59
         have d89 : PV (RSlice RSpan) M1 x9.1 (D 10) w64 := dpA hd59 10 Z
         generalize hq24 : (D 10) = v77 at d89
         exact Zs (E' := [(72, v77)]) ⟨congrArg some hq24, Zt⟩ (Zp Z (Za Z Z ⟨BX.refl _ _, d89⟩))
        ·
         intro w65 D hS42 hd60
         have d113 : PEq (.bool x9.2) (D 11) w65 := dpA hd60 11 Z
         have d114 : PV (RSlice RSpan) M1 x9.1 (D 12) w65 := dpA hd60 12 Z
         have hl64 := Le.no M1 hS42
         have hC64 := hC23.no hS42
         have hJ64 := hY.go hJ23 hS42 (fun _ e => e.elim) (fun _ h => h) hl64
         have ho87 := ho22.no hS42 hl64
         obtain ⟨bb22, hq25, hq26⟩ : ∃ b, b = x9.2 ∧ (D 11) = .bool b := ⟨_, rfl, d113⟩
         generalize hq27 : (D 12) = v78 at d114
         refine lw_sub (E' := [(73, (.bool bb22)), (10, v78), (0, (.func (.yield l) #[] #[])), (1, (.pointer (some p1p))), (2, (.pointer (some p2p))), (4, (Zw g1 0)), (5, (.bool y1)), (6, (Zv k1)), (22, (Zv k1))]) ⟨congrArg some hq26, congrArg some hq27, Z, Z, Z, Z, Z, Z, Z, Zt⟩ (Zo Z Z Z (Za Z Z (Zn (Ze (cw_seq (Zr (Zo Z Z Z (Zm Z Z (Zo Z Z Z (Zm Z Z ?_))))))))))
         replace hb5 := bind_some hb5
         obtain ⟨x10, hx10, hb5⟩ := hb5
         refine Zo Z Z Z (ow_indexA (R := (RSlice RSpan)) Z Z Z Z ho87 Tryd.underlying61 (Tryd.sizeOf59 _) hx10 (lw_op0 Z Z (ow_storeElA (X := K) (R := (RSlice RSpan)) Z Z Z Z ho87 hx10 (Tryd.sizeOf59 _) d114 hm2 (.inl hg2) hC64 fun w66 ho88 hb23 hl65 hC65 => ?_)))
         have hJ65 := hY.go hJ64 hb23 (fun b e h => hk2 ((show b = g1 from e) ▸ h)) (fun _ h => h) hl65
         refine Zn (Ze (Zr (Zo Z Z Z (Zm Z Z (Zo Z Z Z (Zm Z Z ?_))))))
         replace hb5 := Zc hb5
         rcases hb5 with ⟨hc7, hb5⟩ | ⟨hc7, hb5⟩
         ·
          subst hc7
          refine lw_on Z Z Z Z Z Z (Zm Z Z (Zo Z Z Z (ow_pickT Z Z Z (Zo Z Z Z (Za Z Z (Zn (ew_blockN (Ze (Zr (Zo Z Z Z (ow_add Z Z Z (Zo Z Z Z (Zm Z Z (Zn ?_))))))))))))))
          have lz6 := (((hl5.trans hl23).trans hl64).trans hl65)
          refine ew_nxt (x9.2, (W (k1 + 1)), (List.set y2 (k1 : Int).toNat x9.1), y3) hb5 fun a ha => ⟨M1, K1, ?_, lz6, hC65, ho88, hm2, hJ65, hge1, hk2⟩
          rw [hq25] at ha
          exact ha.sub ⟨Z, Z, Z, Z, Z, Z, Zt⟩
         ·
          subst hc7
          refine lw_off Z Z Z Z Z Z (Zo Z Z Z (ow_pickF Z Z Z (Zo Z Z Z (Za Z Z (Zn (ew_blockN (Ze (Zr (Zo Z Z Z (ow_add Z Z Z (Zo Z Z Z (Zm Z Z (Zn ?_)))))))))))))
          have lz7 := (((hl5.trans hl23).trans hl64).trans hl65)
          exact ew_nxt (false, (W (k1 + 1)), (List.set y2 (k1 : Int).toNat x9.1), y3) hb5 fun a ha => ⟨M1, K1, (ha.sub ⟨Z, Z, Z, Z, Z, Z, Zt⟩), lz7, hC65, ho88, hm2, hJ65, hge1, hk2⟩
      ·
       obtain rfl := hq7.trans hc4
       refine lw_off Z Z Z Z Z Z (lw_off Z Z Z Z Z Z (lw_off Z Z Z Z Z Z (lw_off Z Z Z Z Z Z (lw_off' Z Z Z Z Z Z (lw_off' Z Z Z Z Z Z (lw_off Z Z Z Z Z Z (Zo Z Z Z (ow_pickT Z Z Z (Zn (Ze (cw_true Z (cw_seq (cw_regionY 1 (lg_op Z Z Z Z (Zm Z Z (lg_op Z Z Z Z (ow_build (v := .agg #[(.slice none 0 0), (.slice none 0 0), (.slice none 0 0), (.slice none 0 0)]) Z Z (by kernel_rfl) ?_)))))))))))))))))
       have hw2 : VRep (RArr 4 (RSlice RSpan)) w23 M1 [([] : List Span), ([] : List Span), ([] : List Span), ([] : List Span)] (.agg #[(.slice none 0 0), (.slice none 0 0), (.slice none 0 0), (.slice none 0 0)]) := ⟨_, ⟨Z, ⟨_, _, Z, (vslice_nil (R := RSpan) (w := w23) (M := M1)).cells, _, _, Z, (vslice_nil (R := RSpan) (w := w23) (M := M1)).cells, _, _, Z, (vslice_nil (R := RSpan) (w := w23) (M := M1)).cells, _, _, Z, (vslice_nil (R := RSpan) (w := w23) (M := M1)).cells, Z⟩⟩, Z⟩
       refine lg_no hY Z Z Z Z Z Z hJ23 hw2 hC23 hge1 fun w67 hx2 hx2c => lg_end (Ze (Zy (Zh (ew_blockR (Zh (Zh (ew_blockR (ew_brkR ?_))))))))
       have e17 := hR1 _ (sj hb5).symm
       subst e17
       obtain rfl := sj h
       exact ew_ret (res0 Z) ⟨_, Z, Z, .inl ⟨Z, hx2, hx2c.bx⟩⟩
    ·
     obtain rfl := hbb1.trans hc3
     exact Zu Z (cw_exit (ew_thenX (ew_thenX (ew_blockX (ew_brk (y1, k1, y2, y3) hb5 fun a ha => ⟨M1, K1, (ha.sub ⟨Z, Z, Z, Z, Z, Z, Zt⟩), hl5, hC5, ho4, hm2, hJ5, hge1, hk2⟩)))))
   ·
    rintro ⟨y4, k2, y5, y6⟩ a w68 hlr2 ⟨M3, K3, hF2, hl66, hC66, ho89, hm7, hJ66, hge3, hk7⟩
    subst hlr2
    refine ew_at (E := [(0, (.func (.yield l) #[] #[])), (1, (.pointer (some p1p))), (2, (.pointer (some p2p))), (4, (Zw g1 0)), (5, (.bool y4)), (22, (Zv k2))]) hF2 ?_
    obtain rfl := sj h
    exact ew_end (res0 Z) ⟨_, Z, Z, .inr ⟨Z, _, _, hJ66, hC66⟩⟩
  ·
   subst hc2
   refine cw_true Z (cw_seq (cw_regionY 1 (lg_op Z Z Z Z (Zm Z Z (lg_op Z Z Z Z (Zl (R := (RArr 4 (RSlice RSpan))) Z Z (ARep.mono (hl1.trans hl2) hq1p) (Tryd.sizeOf61 _) (Tryd.isAgg61 _) fun v83 hv83 => ?_))))))
   replace h := bind_some h
   obtain ⟨z2, hz2, h⟩ := h
   refine lg_yes hY Z Z Z Z Z Z hJ2 hv83 hz2 hC2 (fun _ h => .inr h) fun w69 K4 M4 hJ67 hb24 hl67 hC67 hM2 hk8 hge4 => lg_end (Ze (Zy (Zh ?_)))
   obtain rfl := sj h
   exact ew_ret (res0 Z) ⟨_, Z, Z, .inr ⟨Z, _, _, hJ67, hC67⟩⟩

theorem w_impl_sides_pieces {w : World} {M : Nat → Prop} (_hG : ARep (RArr 4 RShape) w M shapes ⟨0, 0, none⟩) (hO : ∀ b, M b → b < w.heap.size) {v0p : Value} {a_s : List (List Span)} (h0 : VRep (RArr 4 (RSlice RSpan)) w M a_s v0p) {v1p : Value} {a_other : List (List Span)} (h1 : VRep (RArr 4 (RSlice RSpan)) w M a_other v1p) {r : (List (List Span)) × (List (List Span))} (h : F.impl_sides_pieces a_s a_other = some r) :
  Calls Tryd.prog 69 [v0p, v1p].toArray w fun e w' => ∃ v, e = .returned v ∧ (∃ p q, v = .func (.func 95) #[] #[.pointer (some p), .pointer (some q)] ∧ ARep (RArr 4 (RSlice RSpan)) w' M r.1 p ∧ ARep (RArr 4 (RSlice RSpan)) w' M r.2 q) ∧ BX No w w' := by
 have hC : Cx No w M w M := Cx.start hO (fun _ e => e.elim)
 clear _hG
 refine walk (N := 6) Tryd.func69 Z Tryd.ntmps69 Z (cw_seq (Zr (Zo Z Z Z (ow_box (R := (RArr 4 (RSlice RSpan))) Z Z h0 hC fun p1 w1 hp1 hb1 hl1 hC1 => Zo Z Z Z (ow_box (R := (RArr 4 (RSlice RSpan))) Z Z (VRep.mono hl1 h1) hC1 fun p2 w2 hp2 hb2 hl2 hC2 => Zo Z Z Z (Za Z Z (Zn (Ze (cw_seq (Zr (Zo Z Z Z (ow_makeFunc2 Z Z Z (Zo Z Z Z (Za Z Z (Zn (Ze (Zy ?_)))))))))))))))))
 obtain rfl := sj h
 exact ew_ret (res1 Z (.tmp Z)) ⟨_, Z, ⟨_, _, Z, ARep.mono hC2.back (ARep.mono hl2 hp1), ARep.mono hC2.back hp2⟩, hC2.bx⟩

theorem w_impl_sides_cut {w : World} {M : Nat → Prop} (hG : ARep (RArr 4 RShape) w M shapes ⟨0, 0, none⟩) (hO : ∀ b, M b → b < w.heap.size) {v0p : Value} {a_s : List (List Span)} (h0 : VRep (RArr 4 (RSlice RSpan)) w M a_s v0p) {v1p : Value} {a_other : List (List Span)} (h1 : VRep (RArr 4 (RSlice RSpan)) w M a_other v1p) {r : (List (List (List Span))) × Bool} (h : F.impl_sides_cut a_s a_other = some r) :
  Calls Tryd.prog 33 [v0p, v1p].toArray w fun e w' => ∃ v, e = .returned v ∧ (∃ u0 u1, v = .tuple #[u0, u1] ∧ VRep (RSlice (RArr 4 (RSlice RSpan))) w' M r.1 u0 ∧ VRep RBool w' M r.2 u1) ∧ BX No w w' := by
 obtain ⟨i61, hi61, hz61, hs61, hy61⟩ := info61
 have hC : Cx No w M w M := Cx.start hO (fun _ e => e.elim)
 replace h := bind_some h
 obtain ⟨x1, hx1, h⟩ := h
 replace h := bind_some h
 obtain ⟨x2, hx2, h⟩ := h
 refine walkM (N := 21) Tryd.func33 Z Tryd.ntmps33 Z (cg_seq (cg_region (lg_op Z Z Z Z (ow_box (R := (RArr 4 (RSlice RSpan))) Z Z h0 hC fun p1 w1 hp1 hb1 hl1 hC1 => lg_op Z Z Z Z (ow_box (R := (RArr 4 (RSlice RSpan))) Z Z (VRep.mono hl1 h1) hC1 fun p2 w2 hp2 hb2 hl2 hC2 => lg_op Z Z Z Z (ow_alloc Z (Tryd.zeroValue57 _) hC2 fun g4 w3 hg4 hg40 ho4 hb3 hl3 hC3 => lg_op Z Z Z Z (ow_alloc Z (Tryd.zeroValue4 _) hC3 fun g5 w4 hg5 hg50 ho5 hb4 hl4 hC4 => lg_nil (eg_then (cg_seq (cg_region (lg_op Z Z Z Z (ow_alloc Z (Tryd.zeroValue57 _) hC4 fun g6 w5 hg6 hg60 ho6 hb5 hl5 hC5 => lg_nil (eg_then ?_)))))))))))))
 have hn45 : g4 ≠ g5 := Nat.ne_of_lt (Nat.lt_of_lt_of_le ho4.lt hg5)
 have hn46 : g4 ≠ g6 := Nat.ne_of_lt (Nat.lt_of_lt_of_le (Nat.lt_of_lt_of_le ho4.lt hb4.size) hg6)
 have hn56 : g5 ≠ g6 := Nat.ne_of_lt (Nat.lt_of_lt_of_le ho5.lt hg6)
 replace ho4 := (ho4.no hb4).no hb5
 replace ho5 := ho5.no hb5
 replace hp1 := ARep.mono (((hl2.trans hl3).trans hl4).trans hl5) hp1
 replace hp2 := ARep.mono ((hl3.trans hl4).trans hl5) hp2
 replace hG := hG.mono ((((hl1.trans hl2).trans hl3).trans hl4).trans hl5)
 clear hl1 hl2 hl3 hl4 hl5 hC1 hC2 hC3 hC4 hb1 hb2 hb3 hb4 hb5 hg4 hg5 hg6
 refine cg_seq (cg_seq (cg_region (lg_op Z Z Z Z (Zl (R := (RArr 4 (RSlice RSpan))) Z Z hp1 (Tryd.sizeOf61 _) (Tryd.isAgg61 _) fun v1 hv1 => lg_op Z Z Z Z (Zl (R := (RArr 4 (RSlice RSpan))) Z Z hp2 (Tryd.sizeOf61 _) (Tryd.isAgg61 _) fun v2 hv2 => lg_op Z Z Z Z (Zk Z Z Tryd.call69 (w_impl_sides_pieces hG hC5.old hv1 hv2 hx1) fun v3 w6 hv3 => ?_))))))
 obtain ⟨⟨p, q, rfl, hp, hq⟩, hb6⟩ := hv3
 have hl6 := Le.no (Add g6 (Add g5 (Add g4 M))) hb6
 have hC6 := hC5.no hb6
 replace ho4 := ho4.no hb6
 replace ho5 := ho5.no hb6
 replace ho6 := ho6.no hb6
 replace hG := hG.mono hl6
 refine lg_nil (eg_then (cg_block (cg_rangeFunc (lbl := [.pointer (some p), .pointer (some q)]) Z Tryd.call95 fun fn a ha W hbW hat hsz => ?_)))
 have hlW := Le.no (Add g6 (Add g5 (Add g4 M))) hbW
 have hC7 := hC6.no hbW
 replace ho4 := ho4.no hbW
 replace ho5 := ho5.no hbW
 replace ho6 := ho6.no hbW
 have hD0 : w.heap.size ≤ w6.heap.size := hC6.bx.size
 have hC8 := (hC7.add hat.ltD hD0).add hat.ltl (Nat.le_succ_of_le hD0)
 have hl8 := (hlW.add (Nat.le_refl w6.heap.size)).add (Nat.le_succ w6.heap.size)
 generalize hMW : Add (w6.heap.size + 1) (Add w6.heap.size (Add g6 (Add g5 (Add g4 M)))) = MW at hC8 hl8
 generalize hl : w6.heap.size + 1 = l at *
 generalize hD : w6.heap.size = D at *
 generalize hrec : ({ state := .ready, pending := none, fn, tmps := a.tmps, params := _, assign := _, body := _, defers := D } : Loop) = rec at hat
 have hcol : Col (RArr 4 (RSlice RSpan)) w.heap.size g4 g5 g6 l D 57 4 61 rec [] (.slice none 0 0) MW W := by
  refine ⟨ho4, ho5, ho6, ownrow_nil, (fun b e => by cases e), hat, ?_⟩
  subst hMW
  rintro b (rfl | rfl | rfl | rfl | rfl | e)
  ·
   exact .inr (.inr (.inr (.inr (.inl Z))))
  ·
   exact .inr (.inr (.inr (.inl Z)))
  ·
   exact .inr (.inr (.inl Z))
  ·
   exact .inl Z
  ·
   exact .inr (.inl Z)
  ·
   cases e
 have hk0 : ∀ b, KS g4 g5 g6 l D (.slice none 0 0) b → w.heap.size ≤ b := by
  rintro b (rfl | rfl | rfl | rfl | rfl | e)
  ·
   exact hg40
  ·
   exact hg50
  ·
   exact hg60
  ·
   omega
  ·
   omega
  ·
   cases e
 have hY : Yd Tryd.prog l (RArr 4 (RSlice RSpan)) (ColJ (RArr 4 (RSlice RSpan)) w.heap.size g4 g5 g6 l D 57 4 61 rec) (fun w' => Own w' g4 57 #[.slice none 0 0] ∧ Own w' g5 4 #[.bool false] ∧ RecAt w' l D { rec with state := .done, pending := some .ret }) := by
  refine col_yd ?_ ?_
  ·
   intro xs ys M1 W1 x v u hc hv hap ho
   refine yield2 hc.at_ hrec ha (by decide) (by decide) ?_
   have hn0 : w.heap.size ≤ W1.heap.size := by have := hc.at_.ltD; omega
   have hc0 : Cx M1 { W1 with heap := #[] } (fun _ => False) W1 M1 := Cx.bare (fun _ h => h) ho
   refine cg_seq (cg_region (lg_allocStore (R := (RArr 4 (RSlice RSpan))) Z Z Z Z Z Z Z Tryd.zeroValue61 Tryd.sizeOf61 Z Z Z (by simp) hv hc0 fun p3 W2 hp3 hb2 hl2 hc2 => lg_nil (eg_then (cg_region (lg_op Z Z Z Z (Za Z Z (lg_nil ?_)))))))
   have hd2 := hc.go hb2 (fun _ e => e.elim) (fun _ h => h) hl2
   refine eg_begin hd2.at_ (by rw [← hrec]) ?_
   have hb3 := BX.putObj W2 l (.loop { rec with state := .busy })
   have hat3 : RecAt (W2.putObj l (.loop { rec with state := .busy })) l D { rec with state := .busy } := hd2.at_.put
   generalize W2.putObj l (.loop { rec with state := .busy }) = W3 at hb3 hat3
   have hml : M1 l := hc.mem l (.inr (.inr (.inr (.inl Z))))
   have hl3 : Le W2 M1 W3 M1 := Le.of_bx M1 hb3 (fun b e => (show b = l from e) ▸ hml)
   have hc3 := hc2.go hb3 (fun b e => .inr ((show b = l from e) ▸ hml))
   have o4 := hd2.o4.go hb3 (hd2.o4.ne_l hd2.at_)
   have o5 := hd2.o5.go hb3 (hd2.o5.ne_l hd2.at_)
   have o6 := hd2.o6.go hb3 (hd2.o6.ne_l hd2.at_)
   have hr3 := hd2.row.go hb3 (fun k hk e => orow_ne_l hd2.row hd2.at_ (hk.trans (congrArg some (show k = l from e)))) hl3 (fun _ h => h)
   replace hp3 := ARep.mono hl3 hp3
   refine cg_block (cg_seq (cg_seq (cg_region (lg_op Z Z Z Z (Zm Z Z (lg_op Z Z Z Z (ow_not Z Z (lg_nil (eg_then (cg_false Z (cg_skip (eg_then (cg_region ?_)))))))))))))
   have hB0 : OwnRow (RArr 4 (RSlice RSpan)) ({ W1 with heap := #[] } : World).heap.size 61 W3 M1 xs u := hr3
   refine lg_op Z Z Z Z (ow_loadOwn1 Z Z Z o6 (Tryd.isAgg57 _) Z (lg_op Z Z Z Z (Zl (R := (RArr 4 (RSlice RSpan))) Z Z hp3 (Tryd.sizeOf61 _) (Tryd.isAgg61 _) fun v1 hv1 => ?_)))
   obtain ⟨cc1, cc2, cc3, cc4, rfl⟩ := open_arr4 hv1 rfl
   refine lg_op Z Z Z Z (ow_buildSlice (R := (RArr 4 (RSlice RSpan))) (xs := [x]) (cs := #[cc1, cc2, cc3, cc4]) (e := 61) Z Z (by kernel_rfl) Z Z ⟨_, _, Z, hv1.cells, Z⟩ hc3 fun p4 W4 hw4 hb4 hl4 hc4 => lg_op Z Z Z Z (ow_append (R := (RArr 4 (RSlice RSpan))) Z Z Z Z Tryd.underlying57 hi61 hz61 hs61 hy61 Z Z Z Z (hB0.no hb4) hw4 hap hc4 fun u5 W5 M5 hr5 hb5 hl5 hc5 hM5 hat5 => ?_))
   have hrow4 := hB0.no hb4
   have o45 := (o4.no hb4).go hb5 (orow_ne hrow4 (o4.no hb4) (by decide))
   have o55 := (o5.no hb4).go hb5 (orow_ne hrow4 (o5.no hb4) (by decide))
   have o65 := (o6.no hb4).go hb5 (orow_ne hrow4 (o6.no hb4) (by decide))
   have hat4 := hat3.go hb4 (fun e => e) (fun e => e)
   have hat55 := hat4.go hb5 (orow_ne_l hrow4 hat4) (orow_ne_D hrow4 hat4)
   obtain ⟨A5, c5, rfl⟩ := hr5.len
   have hm6 : M5 g6 := hM5 _ (hc.mem g6 (.inr (.inr (.inl Z))))
   refine lg_op0 Z Z Z (ow_store (X := M1) (us := [(.slice A5 ys.length c5)]) (cs' := #[(.slice A5 ys.length c5)]) Z Z Z Z o65 (Tryd.sizeOf57 _) Z Z Z Z hm6 (.inl (Nat.zero_le _)) Z hc5 fun W6 o66 hb6' hl6' hc6 => ?_)
   have o46 := o45.go hb6' (fun e => hn46 e)
   have o56 := o55.go hb6' (fun e => hn56 e)
   have hat6 := hat55.go hb6' (fun e => o65.ne_l hat55 (show l = g6 from e).symm) (fun e => o65.ne_D hat55 (show D = g6 from e).symm)
   have hr6 := hr5.go hb6' (fun k hk e => (orow_ne hr5 o65 (by decide)) (hk.trans (congrArg some e))) hl6' (fun _ h => h)
   refine lg_nil (eg_blockN (eg_next hat6 (by rw [← hrec]) (by rw [← hrec]) ⟨Z, ?_⟩))
   have hb7 := BX.putObj W6 l (.loop rec)
   have hat7 : RecAt (W6.putObj l (.loop rec)) l D rec := hat6.put
   generalize W6.putObj l (.loop rec) = W7 at hb7 hat7
   have hml7 : M5 l := hM5 _ hml
   have hl7 : Le W6 M5 W7 M5 := Le.of_bx M5 hb7 (fun b e => (show b = l from e) ▸ hml7)
   have hK : ∀ b, b = l → KS g4 g5 g6 l D u b := fun b e => .inr (.inr (.inr (.inl e)))
   have hs14 : W1.heap.size ≤ W4.heap.size := Nat.le_trans hb2.size (Nat.le_trans hb3.size hb4.size)
   have hbA : BX (KS g4 g5 g6 l D u) W1 W4 := (hb2.mono fun _ _ e => e.elim).trans ((hb3.mono fun b _ e => hK b e).trans (hb4.mono fun _ _ e => e.elim))
   have hbB : BX (KS g4 g5 g6 l D u) W4 W5 := hb5.mono fun b _ e => .inr (.inr (.inr (.inr (.inr e))))
   have hbC : BX (KS g4 g5 g6 l D u) W5 W6 := hb6'.mono fun b _ e => .inr (.inr (.inl e))
   have hbD : BX (KS g4 g5 g6 l D u) W6 W7 := hb7.mono fun b _ e => hK b e
   have hlall := ((((hl2.trans hl3).trans hl4).trans hl5).trans hl6').trans hl7
   have hold7 : ∀ b, M5 b → b < W7.heap.size := fun b h => Nat.lt_of_lt_of_le (hc6.old b h) hb7.size
   have hown5 : ∀ b, (Value.slice A5 ys.length c5).ownBlock = some b → u.ownBlock = some b ∨ b = W4.heap.size := fun b e => hat5.elim (fun h => .inl (h ▸ e)) fun h => .inr (by rw [h] at e; exact (sj e).symm)
   refine ⟨_, M5, ⟨o46.go hb7 (o46.ne_l hat6), o56.go hb7 (o56.ne_l hat6), o66.go hb7 (o66.ne_l hat6), hr6.go hb7 (fun k hk e => orow_ne_l hr6 hat6 (hk.trans (congrArg some (show k = l from e)))) hl7 (fun _ h => h), ?_, hat7, ?_⟩, hbA.trans (hbB.trans (hbC.trans hbD)), hM5, ?_, ?_⟩
   ·
    intro b e
    rcases hown5 b e with h | h
    ·
     exact hc.rb b h
    ·
     have := hs14; have := hn0; omega
   ·
    rintro b (rfl | rfl | rfl | rfl | rfl | e)
    ·
     exact hM5 _ (hc.mem _ (.inl Z))
    ·
     exact hM5 _ (hc.mem _ (.inr (.inl Z)))
    ·
     exact hm6
    ·
     exact hml7
    ·
     exact hM5 _ (hc.mem _ (.inr (.inr (.inr (.inr (.inl Z))))))
    ·
     exact hr6.mem b e
   ·
    intro b hb
    by_cases hlt : b < W1.heap.size
    ·
     exact .inl (hlall.old b hlt hb)
    ·
     exact .inr ⟨by omega, hold7 b hb⟩
   ·
    rintro b (rfl | rfl | rfl | rfl | rfl | e)
    ·
     exact .inl (.inl Z)
    ·
     exact .inl (.inr (.inl Z))
    ·
     exact .inl (.inr (.inr (.inl Z)))
    ·
     exact .inl (.inr (.inr (.inr (.inl Z))))
    ·
     exact .inl (.inr (.inr (.inr (.inr (.inl Z)))))
    ·
     rcases hown5 b e with h | h
     ·
      exact .inl (.inr (.inr (.inr (.inr (.inr h)))))
     ·
      exact .inr (by have := hs14; omega)
  ·
   intro xs M1 W1 x v u hc hv ho
   refine yield2 hc.at_ hrec ha (by decide) (by decide) ?_
   have hc0 : Cx M1 { W1 with heap := #[] } (fun _ => False) W1 M1 := Cx.bare (fun _ h => h) ho
   refine cg_seq (cg_region (lg_allocStore (R := (RArr 4 (RSlice RSpan))) Z Z Z Z Z Z Z Tryd.zeroValue61 Tryd.sizeOf61 Z Z Z (by simp) hv hc0 fun p3 W2 hp3 hb2 hl2 hc2 => lg_nil (eg_then (cg_region (lg_op Z Z Z Z (Za Z Z (lg_nil ?_)))))))
   have hd2 := hc.go hb2 (fun _ e => e.elim) (fun _ h => h) hl2
   refine eg_begin hd2.at_ (by rw [← hrec]) ?_
   have hb3 := BX.putObj W2 l (.loop { rec with state := .busy })
   have hat3 : RecAt (W2.putObj l (.loop { rec with state := .busy })) l D { rec with state := .busy } := hd2.at_.put
   generalize W2.putObj l (.loop { rec with state := .busy }) = W3 at hb3 hat3
   have hc3 := hc2.go hb3 (fun b e => .inr ((show b = l from e) ▸ hc.mem l (.inr (.inr (.inr (.inl Z))))))
   have o4 := hd2.o4.go hb3 (hd2.o4.ne_l hd2.at_)
   have o5 := hd2.o5.go hb3 (hd2.o5.ne_l hd2.at_)
   refine cg_block (cg_seq (cg_seq (cg_region (lg_op Z Z Z Z (Zm Z Z (lg_op Z Z Z Z (ow_not Z Z (lg_nil (eg_then (cg_true Z (cg_seq (cg_region (lg_op0 Z Z Z (ow_store (X := M1) (us := [(.slice none 0 0)]) (cs' := #[(.slice none 0 0)]) Z Z Z Z o4 (Tryd.sizeOf57 _) Z Z Z Z (hc.mem g4 (.inl Z)) (.inl (Nat.zero_le _)) Z hc3 fun W4 o44 hb4 hl4 hc4 => ?_))))))))))))))
   have o54 := o5.go hb4 (fun e => hn45 e.symm)
   have hat4 := hat3.go hb4 (fun e => o4.ne_l hat3 (show l = g4 from e).symm) (fun e => o4.ne_D hat3 (show D = g4 from e).symm)
   refine lg_op0 Z Z Z (ow_store (X := M1) (us := [(.bool false)]) (cs' := #[(.bool false)]) Z Z Z Z o54 (Tryd.sizeOf4 _) Z Z Z Z (hc.mem g5 (.inr (.inl Z))) (.inl (Nat.zero_le _)) Z hc4 fun W5 o55 hb5 hl5 hc5 => ?_)
   have o45 := o44.go hb5 (fun e => hn45 e)
   have hat5 := hat4.go hb5 (fun e => o54.ne_l hat4 (show l = g5 from e).symm) (fun e => o54.ne_D hat4 (show D = g5 from e).symm)
   refine lg_nil (eg_then (cg_ret (eg_thenR (eg_blockR (eg_stop hat5 ⟨Z, ?_⟩)))))
   have hb6 := BX.putObj W5 l (.loop { rec with state := .done, pending := some .ret })
   have hat6 : RecAt (W5.putObj l (.loop { rec with state := .done, pending := some .ret })) l D { rec with state := .done, pending := some .ret } := hat5.put
   have hK : ∀ b, b = l → KS g4 g5 g6 l D u b := fun b e => .inr (.inr (.inr (.inl e)))
   exact ⟨⟨o45.go hb6 (o45.ne_l hat5), o55.go hb6 (o55.ne_l hat5), hat6⟩, (hb2.mono fun _ _ e => e.elim).trans ((hb3.mono fun b _ e => hK b e).trans ((hb4.mono fun b _ e => .inl e).trans ((hb5.mono fun b _ e => .inr (.inl e)).trans (hb6.mono fun b _ e => hK b e))))⟩
 have hgW := hG.mono hl8
 refine (w_impl_sides_pieces_1 hgW hC8.old hY ⟨_, Z, hcol⟩ (ARep.mono hl8 hp) (ARep.mono hl8 hq) hx2).mono ?_
 rintro e w3 ⟨v, rfl, rfl, hend⟩
 rcases hend with ⟨hs, ⟨o4, o5, hat3⟩, hb3⟩ | ⟨hs, K, M', ⟨u, rfl, hc3⟩, hC9⟩
 ·
  rw [hs] at h
  obtain rfl := sj h
  refine ⟨_, _, Z, hat3, by simp, .inr ⟨_, Z, ?_⟩⟩
  have hC9 := hC8.go hb3 (fun b e => .inl (hk0 b e))
  have hb4 := BX.putObj w3 l (.loop { rec with state := .exhausted, pending := some .ret })
  have hat4 : RecAt (w3.putObj l (.loop { rec with state := .exhausted, pending := some .ret })) l D { rec with state := .exhausted, pending := some .ret } := hat3.put
  replace o4 := o4.go hb4 (o4.ne_l hat3)
  replace o5 := o5.go hb4 (o5.ne_l hat3)
  have hC10 := hC9.go hb4 (fun b e => .inl (by have : b = l := e; omega))
  refine cg_ret (eg_blockR (eg_thenR ?_))
  have hb5 := BX.putObj (w3.putObj l (.loop { rec with state := .exhausted, pending := some .ret })) D (.deferred none)
  have hC11 := hC10.go hb5 (fun b e => .inl (by have : b = D := e; omega))
  refine eg_retM hat4.2 (res2 Z (.cell Z (own_loadVar1 (o4.go hb5 (o4.ne_D hat4)) (Tryd.isAgg57 _))) (.cell Z (own_loadVar1 (o5.go hb5 (o5.ne_D hat4)) (Tryd.isAgg4 _)))) ⟨_, Z, ⟨_, _, Z, vslice_nil, vbool _⟩, hC11.bx⟩
 ·
  rw [hs] at h
  obtain rfl := sj h
  have hC10 := hC8.trans2 hC9 (fun b e => .inl (hk0 b e))
  refine ⟨_, rec, Z, hc3.at_, by rw [← hrec]; simp, .inl ⟨by rw [← hrec], ?_⟩⟩
  have hb4 := BX.putObj w3 l (.loop { rec with state := .exhausted })
  have hat4 : RecAt (w3.putObj l (.loop { rec with state := .exhausted })) l D { rec with state := .exhausted } := hc3.at_.put
  generalize w3.putObj l (.loop { rec with state := .exhausted }) = w4 at hb4 hat4
  have o4 := hc3.o4.go hb4 (hc3.o4.ne_l hc3.at_)
  have o5 := hc3.o5.go hb4 (hc3.o5.ne_l hc3.at_)
  have o6 := hc3.o6.go hb4 (hc3.o6.ne_l hc3.at_)
  have hml : M' l := hc3.mem l (.inr (.inr (.inr (.inl Z))))
  have hl4 : Le w3 M' w4 M' := Le.of_bx M' hb4 (fun b e => (show b = l from e) ▸ hml)
  have hC11 := hC10.go hb4 (fun b e => .inl (by have : b = l := e; omega))
  have hr4 := (hc3.row.go hb4 (fun k hk e => orow_ne_l hc3.row hc3.at_ (hk.trans (congrArg some (show k = l from e)))) hl4 (fun _ h => h)).raise hc3.rb
  refine eg_blockN (eg_then (cg_seq (cg_region (lg_op Z Z Z Z (ow_loadOwn1 Z Z Z o6 (Tryd.isAgg57 _) Z ?_)))))
  obtain ⟨A5, c5, rfl⟩ := hr4.len
  refine lg_op0 Z Z Z (ow_store (X := No) (us := [(.slice A5 x2.2.length c5)]) (cs' := #[(.slice A5 x2.2.length c5)]) Z Z Z Z o4 (Tryd.sizeOf57 _) Z Z Z Z (hc3.mem g4 (.inl Z)) (.inl hg40) Z hC11 fun w5 o45 hb5 hl5 hC12 => ?_)
  have o55 := o5.go hb5 (fun e => hn45 e.symm)
  have hat5 := hat4.go hb5 (fun e => o4.ne_l hat4 (show l = g4 from e).symm) (fun e => o4.ne_D hat4 (show D = g4 from e).symm)
  have hr5 := hr4.go hb5 (fun k hk e => (orow_ne hr4 o4 (by decide)) (hk.trans (congrArg some e))) hl5 (fun _ h => h)
  refine lg_op0 Z Z Z (ow_store (X := No) (us := [(.bool true)]) (cs' := #[(.bool true)]) Z Z Z Z o55 (Tryd.sizeOf4 _) Z Z Z Z (hc3.mem g5 (.inr (.inl Z))) (.inl hg50) Z hC12 fun w6' o56 hb6' hl6' hC13 => ?_)
  have o46 := o45.go hb6' (fun e => hn45 e)
  have hat6 := hat5.go hb6' (fun e => o55.ne_l hat5 (show l = g5 from e).symm) (fun e => o55.ne_D hat5 (show D = g5 from e).symm)
  have hr6 := hr5.go hb6' (fun k hk e => (orow_ne hr5 o55 (by decide)) (hk.trans (congrArg some e))) hl6' (fun _ h => h)
  refine lg_nil (eg_then (cg_ret ?_))
  have hb7 := BX.putObj w6' D (.deferred none)
  have hmD : M' D := hc3.mem D (.inr (.inr (.inr (.inr (.inl Z)))))
  have hl7 : Le w6' M' _ M' := Le.of_bx M' hb7 (fun b e => (show b = D from e) ▸ hmD)
  have hC14 := hC13.go hb7 (fun b e => .inl (by have : b = D := e; omega))
  have hr7 := hr6.go hb7 (fun k hk e => orow_ne_D hr6 hat6 (hk.trans (congrArg some (show k = D from e)))) hl7 (fun _ h => h)
  refine eg_retM hat6.2 (res2 Z (.cell Z (own_loadVar1 (o46.go hb7 (o46.ne_D hat6)) (Tryd.isAgg57 _))) (.cell Z (own_loadVar1 (o56.go hb7 (o56.ne_D hat6)) (Tryd.isAgg4 _)))) ⟨_, Z, ⟨_, _, Z, hr7.freezeBack hC14 hO, vbool _⟩, hC14.bx⟩

theorem w_impl_boxesOf {w : World} {M : Nat → Prop} (hG : ARep (RArr 4 RShape) w M shapes ⟨0, 0, none⟩) (hO : ∀ b, M b → b < w.heap.size) {v0p : Value} {a_list : List (List (List Span))} (h0 : VRep (RSlice (RArr 4 (RSlice RSpan))) w M a_list v0p) {r : (List Box)} (h : F.impl_boxesOf a_list = some r) :
  Calls Tryd.prog 34 [v0p].toArray w fun e w' => ∃ v, e = .returned v ∧ VRep (RSlice RBox) w' M r v ∧ BX No w w' := by
 obtain ⟨i25, hi25, hz25, hs25, hy25⟩ := info25
 have hC : Cx No w M w M := Cx.start hO (fun _ e => e.elim)
 refine walk (N := 22) Tryd.func34 Z Tryd.ntmps34 Z (cw_seq (Zr (Zo Z Z Z (Za Z Z (Zn (Ze (cw_seq (Zr (Zo Z Z Z (Zm Z Z (Zo Z Z Z (ow_len Z Z h0 Tryd.underlying57 Z ?_))))))))))))
 replace h := bind_some h
 obtain ⟨u1, hu1, h⟩ := h
 refine Zo Z Z Z (ow_make0 (α := Box) (R := RBox) Z Z Z Tryd.underlying28 hi25 hz25 hs25 hy25 Z Z (capF_some hu1) hC fun v1 w1 M1 hr1 hb1 hl1 hC1 hM1 hat1 => Zo Z Z Z (Za Z Z (Zn (Ze (cw_seq (cw_seq (Zr (Zo Z Z Z (Zm Z Z (Zo Z Z Z (ow_len Z Z (VRep.mono hl1 h0) Tryd.underlying57 Z (Zo Z Z Z (Zm Z Z (Zn (Ze ?_)))))))))))))))
 replace h := bind_some h
 obtain ⟨lr1, hlr1, h⟩ := h
 refine cw_for hlr1 (fun s a w' => ∃ (M' : Nat → Prop) (v0c : Value), Fits 22 [(3, v0c), (9, v0p), (10, (Zv (a_list.length : Int))), (11, (Zv s.2))] a ∧ Le w1 M1 w' M' ∧ Cx No w M w' M' ∧ OwnRow RBox w.heap.size 25 w' M' s.1 v0c) ?_ ?_ ?_
 · exact fun a ha => ⟨M1, v1, ha.sub ⟨Z, Z, Z, Z, Zt⟩, Le.refl _ _, hC1, hr1⟩
 ·
  rintro ⟨y1, k1⟩ a w2 sr1 ⟨M2, v2, hF1, hl2, hC2, hw1⟩ hb2 hR1
  refine cw_at (E := [(3, v2), (9, v0p), (10, (Zv (a_list.length : Int))), (11, (Zv k1))]) hF1 (cw_seq (Zr (Zo Z Z Z (ow_lss Z Z Z fun bb1 hbb1 => Zn (Ze (cw_seq ?_))))))
  replace hb2 := Zc hb2
  rcases hb2 with ⟨hc1, hb2⟩ | ⟨hc1, hb2⟩
  ·
   obtain rfl := hbb1.trans hc1
   refine cw_true Z (cw_skip (Ze (cw_seq (cw_block (cw_seq (Zr ?_))))))
   replace hb2 := bind_some hb2
   obtain ⟨x1, hx1, hb2⟩ := hb2
   refine Zo Z Z Z (Zx (R := (RArr 4 (RSlice RSpan))) Z Z Z (VRep.mono (hl1.trans hl2) h0) Tryd.underlying57 (Tryd.sizeOf61 _) hx1 fun p1 hp1 => Zo Z Z Z (Zl (R := (RArr 4 (RSlice RSpan))) Z Z hp1 (Tryd.sizeOf61 _) (Tryd.isAgg61 _) fun v4 hv4 => lw_allocStore (R := (RArr 4 (RSlice RSpan))) Z Z Z Z Z Z Z Tryd.zeroValue61 Tryd.sizeOf61 Z Z Z (by simp) hv4 hC2 fun p2 w3 hp2 hb3 hl3 hC3 => ?_))
   have hr2 := hw1.no hb3
   refine Zn (Ze (Zr (Zo Z Z Z (Zm Z Z (Zo Z Z Z (Zl (R := (RArr 4 (RSlice RSpan))) Z Z hp2 (Tryd.sizeOf61 _) (Tryd.isAgg61 _) fun v5 hv5 => ?_))))))
   replace hb2 := bind_some hb2
   obtain ⟨x2, hx2, hb2⟩ := hb2
   have lz1 := ((hl1.trans hl2).trans hl3)
   refine Zo Z Z Z (Zk Z Z Tryd.call46 (w_impl_sides_box (hG.mono lz1) hC3.old hv5 hx2) fun v6 w4 hv6 => ?_)
   obtain ⟨hv6, hb4⟩ := hv6
   have hl4 := Le.no M2 hb4
   have hC4 := hC3.no hb4
   have hr3 := hr2.no hb4
   obtain ⟨A1, c1, rfl, hw2⟩ := open_Box hv6
   refine Zo Z Z Z (ow_buildSlice (R := RBox) (xs := [x2]) (cs := #[(.slice A1 x2.Sides.length c1)]) (e := 25) Z Z (by kernel_rfl) Z Z ⟨_, _, Z, hv6.cells, Z⟩ hC4 fun p3 w5 hw3 hb5 hl5 hC5 => ?_)
   have hr4 := hr3.no hb5
   replace hb2 := bind_some hb2
   obtain ⟨z1, hz1, hb2⟩ := hb2
   refine Zo Z Z Z (ow_append (R := RBox) Z Z Z Z Tryd.underlying28 hi25 hz25 hs25 hy25 Z Z Z Z hr4 hw3 hz1 hC5 fun v7 w6 M3 hr5 hb6 hl6 hC6 hM2 hat2 => Zo Z Z Z (Za Z Z (Zn (ew_blockN (Ze (Zr (Zo Z Z Z (ow_add Z Z Z (Zo Z Z Z (Zm Z Z (Zn ?_)))))))))))
   have lz2 := ((((hl2.trans hl3).trans hl4).trans hl5).trans hl6)
   exact ew_nxt (z1, (W (k1 + 1))) hb2 fun a ha => ⟨M3, v7, (ha.sub ⟨Z, Z, Z, Z, Zt⟩), lz2, hC6, hr5⟩
  ·
   obtain rfl := hbb1.trans hc1
   exact Zu Z (cw_exit (ew_thenX (ew_thenX (ew_blockX (ew_brk (y1, k1) hb2 fun a ha => ⟨M2, v2, (ha.sub ⟨Z, Z, Z, Z, Zt⟩), hl2, hC2, hw1⟩)))))
 ·
  rintro ⟨y2, k2⟩ a w7 hlr2 ⟨M4, v8, hF2, hl7, hC7, hw4⟩
  subst hlr2
  refine ew_at (E := [(3, v8), (9, v0p), (10, (Zv (a_list.length : Int))), (11, (Zv k2))]) hF2 (Ze (cw_seq (Zr (Zo Z Z Z (Zm Z Z (Zo Z Z Z (Za Z Z (Zn (Ze (Zy ?_))))))))))
  obtain rfl := sj h
  exact ew_ret (res1 Z (.tmp Z)) ⟨_, Z, (hw4.freezeBack hC7 hO), hC7.bx⟩

theorem w_impl_BoxCut {w : World} {M : Nat → Prop} (hG : ARep (RArr 4 RShape) w M shapes ⟨0, 0, none⟩) (hO : ∀ b, M b → b < w.heap.size) {v0p : Value} {a_a : Box} (h0 : VRep RBox w M a_a v0p) {v1p : Value} {a_b : Box} (h1 : VRep RBox w M a_b v1p) {r : (List Box)} (h : F.impl_BoxCut a_a a_b = some r) :
  Calls Tryd.prog 9 [v0p, v1p].toArray w fun e w' => ∃ v, e = .returned v ∧ VRep (RSlice RBox) w' M r v ∧ BX No w w' := by
 have hC : Cx No w M w M := Cx.start hO (fun _ e => e.elim)
 refine walk (N := 27) Tryd.func9 Z Tryd.ntmps9 Z (cw_seq (Zr (Zo Z Z Z (ow_box (R := RBox) Z Z h0 hC fun p1 w1 hp1 hb1 hl1 hC1 => Zo Z Z Z (ow_box (R := RBox) Z Z (VRep.mono hl1 h1) hC1 fun p2 w2 hp2 hb2 hl2 hC2 => Zo Z Z Z (Za Z Z (Zn (Ze (cw_seq (cw_seq (Zr (Zo Z Z Z (Zl (R := RBox) Z Z (ARep.mono hl2 hp1) (Tryd.sizeOf25 _) (Tryd.isAgg25 _) fun v1 hv1 => ?_)))))))))))))
 replace h := bind_some h
 obtain ⟨x1, hx1, h⟩ := h
 refine Zo Z Z Z (Zk Z Z Tryd.call31 (w_impl_BoxValid (hG.mono (hl1.trans hl2)) hC2.old hv1 hx1) fun v2 w3 hv2 => ?_)
 obtain ⟨hv2, hb3⟩ := hv2
 have hl3 := Le.no M hb3
 have hC3 := hC2.no hb3
 obtain rfl := vbool_eq hv2
 refine Zo Z Z Z (ow_not Z Z (Zo Z Z Z (Zm Z Z ?_)))
 replace h := Zc h
 rcases h with ⟨hc1, h⟩ | ⟨hc1, h⟩
 ·
  subst hc1
  refine lw_on Z Z Z Z Z Z (Zl (R := RBox) Z Z (ARep.mono hl3 hp2) (Tryd.sizeOf25 _) (Tryd.isAgg25 _) fun v3 hv3 => ?_)
  replace h := bind_some h
  obtain ⟨x2, hx2, h⟩ := h
  have lz1 := ((hl1.trans hl2).trans hl3)
  refine lw_on Z Z Z Z Z Z (Zk Z Z Tryd.call31 (w_impl_BoxValid (hG.mono lz1) hC3.old hv3 hx2) fun v4 w4 hv4 => ?_)
  obtain ⟨hv4, hb4⟩ := hv4
  have hl4 := Le.no M hb4
  have hC4 := hC3.no hb4
  obtain rfl := vbool_eq hv4
  refine lw_on Z Z Z Z Z Z (ow_not Z Z (Zo Z Z Z (ow_pickF Z Z Z (Zn (Ze ?_)))))
  replace h := Zc h
  rcases h with ⟨hc2, h⟩ | ⟨hc2, h⟩
  ·
   subst hc2
   refine Zu Z (cw_skip (Ze (cw_seq ?_)))
   replace h := bind_some h
   obtain ⟨x3, hx3, h⟩ := h
   replace h := bind_some h
   obtain ⟨x4, hx4, h⟩ := h
   replace h := bind_some h
   obtain ⟨x5, hx5, h⟩ := h
   have lz2 := (lz1.trans hl4)
   have lz3 := ((hl2.trans hl3).trans hl4)
   have lz4 := (hl3.trans hl4)
   refine cw_sub (E' := [(2, (.pointer (some p1))), (3, (.pointer (some p2))), (4, (.slice none 0 0))]) ⟨Z, Z, Z, Zt⟩ (cw_drawQ 9 [PV RBox M a_a, PV (RArr 4 (RSlice RSpan)) M x3, PV RBox M a_b, PV (RArr 4 (RSlice RSpan)) M x4, PT2 (PV (RSlice (RArr 4 (RSlice RSpan))) M x5.1) (PEq (.bool x5.2)), PT2 (PV (RSlice (RArr 4 (RSlice RSpan))) M x5.1) (PEq (.bool x5.2)), PV (RSlice (RArr 4 (RSlice RSpan))) M x5.1, PEq (.bool x5.2), PV (RSlice (RArr 4 (RSlice RSpan))) M x5.1] (by kernel_rfl) Z (by kernel_rfl) ⟨PV.mono _ _ _, PV.mono _ _ _, PV.mono _ _ _, PV.mono _ _ _, (PT2.mono (PV.mono _ _ _) (Zq)), (PT2.mono (PV.mono _ _ _) (Zq)), PV.mono _ _ _, Zq, PV.mono _ _ _, Zt⟩ ⟨?_, ?_, ?_, ?_, ?_, ?_, ?_, ?_, ?_, Zt⟩ ?_)
   ·
    intro w8 D hS1 hd1
    have hl8 := Le.no M hS1
    exact Zs (E' := [(2, (.pointer (some p1)))]) ⟨Z, Zt⟩ (Zp Z (Zl (R := RBox) Z Z (ARep.mono (lz3.trans hl8) hp1) (Tryd.sizeOf25 _) (Tryd.isAgg25 _) fun v12 hv12 => ⟨BX.refl _ _, hv12⟩))
   ·
    intro w9 D hS2 hd2
    have hl9 := Le.no M hS2
    have hC9 := hC4.no hS2
    have d1 : PV RBox M a_a (D 0) w9 := dpA hd2 0 Z
    generalize hq1 : (D 0) = v13 at d1
    refine Zs (E' := [(16, v13)]) ⟨congrArg some hq1, Zt⟩ (Zp Z (Zk Z Z Tryd.call32 (w_impl_sidesOf (hG.mono (lz2.trans hl9)) hC9.old d1 hx3) fun v14 w10 hv14 => ?_))
    obtain ⟨hv14, hb8⟩ := hv14
    exact ⟨hb8, hv14⟩
   ·
    intro w11 D hS3 hd3
    have hl11 := Le.no M hS3
    exact Zs (E' := [(3, (.pointer (some p2)))]) ⟨Z, Zt⟩ (Zp Z (Zl (R := RBox) Z Z (ARep.mono (lz4.trans hl11) hp2) (Tryd.sizeOf25 _) (Tryd.isAgg25 _) fun v15 hv15 => ⟨BX.refl _ _, hv15⟩))
   ·
    intro w12 D hS4 hd4
    have hl12 := Le.no M hS4
    have hC12 := hC4.no hS4
    have d2 : PV RBox M a_b (D 2) w12 := dpA hd4 2 Z
    generalize hq2 : (D 2) = v16 at d2
    refine Zs (E' := [(18, v16)]) ⟨congrArg some hq2, Zt⟩ (Zp Z (Zk Z Z Tryd.call32 (w_impl_sidesOf (hG.mono (lz2.trans hl12)) hC12.old d2 hx4) fun v17 w13 hv17 => ?_))
    obtain ⟨hv17, hb9⟩ := hv17
    exact ⟨hb9, hv17⟩
   ·
    intro w14 D hS5 hd5
    have hl14 := Le.no M hS5
    have hC14 := hC4.no hS5
    have d4 : PV (RArr 4 (RSlice RSpan)) M x3 (D 1) w14 := dpA hd5 1 Z
    have d5 : PV (RArr 4 (RSlice RSpan)) M x4 (D 3) w14 := dpA hd5 3 Z
    generalize hq3 : (D 1) = v18 at d4
    generalize hq4 : (D 3) = v19 at d5
    refine Zs (E' := [(17, v18), (19, v19)]) ⟨congrArg some hq3, congrArg some hq4, Zt⟩ (Zp Z (Zk Z Z Tryd.call33 (w_impl_sides_cut (hG.mono (lz2.trans hl14)) hC14.old d4 d5 hx5) fun v20 w15 hv20 => ?_))
    obtain ⟨⟨v21, v22, rfl, hv21, hv22⟩, hb10⟩ := hv20
    obtain ⟨bb2, hbb2, rfl⟩ := vbool_ex hv22
    exact ⟨hb10, ⟨_, _, Z, hv21, (congrArg Value.bool hbb2)⟩⟩
   ·
    intro w16 D hS6 hd6
    have d7 : PT2 (PV (RSlice (RArr 4 (RSlice RSpan))) M x5.1) (PEq (.bool x5.2)) (D 4) w16 := dpA hd6 4 Z
    obtain ⟨v23, v24, e1, hd7, hd8⟩ := d7
    obtain ⟨bb3, hq5, rfl⟩ : ∃ b, b = x5.2 ∧ v24 = .bool b := ⟨_, rfl, hd8⟩
    exact Zs (E' := [(20, (.tuple #[v23, (.bool bb3)]))]) ⟨congrArg some e1, Zt⟩ (Zp Z (Zm Z Z ⟨BX.refl _ _, ⟨_, _, Z, hd7, (congrArg Value.bool hq5)⟩⟩))
   ·
    intro w17 D hS7 hd9
    have d8 : PT2 (PV (RSlice (RArr 4 (RSlice RSpan))) M x5.1) (PEq (.bool x5.2)) (D 5) w17 := dpA hd9 5 Z
    obtain ⟨v25, v26, e2, hd10, hd11⟩ := d8
    obtain ⟨bb4, hq6, rfl⟩ : ∃ b, b = x5.2 ∧ v26 = .bool b := ⟨_, rfl, hd11⟩
    exact Zs (E' := [(15, (.tuple #[v25, (.bool bb4)]))]) ⟨congrArg some e2, Zt⟩ (Zp Z (ow_extract Z Z Z ⟨BX.refl _ _, hd10⟩))
   ·
    intro w18 D hS8 hd12
    have d9 : PT2 (PV (RSlice (RArr 4 (RSlice RSpan))) M x5.1) (PEq (.bool x5.2)) (D 5) w18 := dpA hd12 5 Z
    obtain ⟨v27, v28, e3, hd13, hd14⟩ := d9
    obtain ⟨bb5, hq7, rfl⟩ : ∃ b, b = x5.2 ∧ v28 = .bool b := ⟨_, rfl, hd14⟩
    exact Zs (E' := [(15, (.tuple #[v27, (.bool bb5)]))]) ⟨congrArg some e3, Zt⟩ (Zp Z (ow_extract Z Z Z ⟨BX.refl _ _, (congrArg Value.bool hq7)⟩))
   ·
    intro w19 D hS9 hd15
    have d10 : PV (RSlice (RArr 4 (RSlice RSpan))) M x5.1 (D 6) w19 := dpA hd15 6 Z
    generalize hq8 : (D 6) = v29 at d10
    exact Zs (E' := [(21, v29)]) ⟨congrArg some hq8, Zt⟩ (Zp Z (Za Z Z ⟨BX.refl _ _, d10⟩))
   ·
    intro w20 D hS10 hd16
    have d26 : PEq (.bool x5.2) (D 7) w20 := dpA hd16 7 Z
    have d27 : PV (RSlice (RArr 4 (RSlice RSpan))) M x5.1 (D 8) w20 := dpA hd16 8 Z
    have hl20 := Le.no M hS10
    have hC20 := hC4.no hS10
    obtain ⟨bb6, hq9, hq10⟩ : ∃ b, b = x5.2 ∧ (D 7) = .bool b := ⟨_, rfl, d26⟩
    generalize hq11 : (D 8) = v30 at d27
    refine lw_sub (E' := [(22, (.bool bb6)), (5, v30), (2, (.pointer (some p1))), (3, (.pointer (some p2))), (4, (.slice none 0 0))]) ⟨congrArg some hq10, congrArg some hq11, Z, Z, Z, Zt⟩ (Zo Z Z Z (Za Z Z (Zn (Ze (cw_seq (cw_seq (Zr (Zo Z Z Z (Zm Z Z (Zo Z Z Z (ow_not Z Z (Zn (Ze ?_)))))))))))))
    replace h := Zc h
    rcases h with ⟨hc3, h⟩ | ⟨hc3, h⟩
    ·
     obtain rfl := hq9.trans hc3
     refine Zu Z (cw_skip (Ze (cw_seq (Zr (Zo Z Z Z (Zm Z Z ?_))))))
     replace h := bind_some h
     obtain ⟨x6, hx6, h⟩ := h
     refine Zo Z Z Z (Zk Z Z Tryd.call34 (w_impl_boxesOf (hG.mono (lz2.trans hl20)) hC20.old d27 hx6) fun v31 w21 hv31 => ?_)
     obtain ⟨hv31, hb11⟩ := hv31
     have hC21 := hC20.no hb11
     refine Zo Z Z Z (Za Z Z (Zn (Ze (Zy ?_))))
     obtain rfl := sj h
     exact ew_ret (res1 Z (.tmp Z)) ⟨_, Z, (VRep.mono hC21.back hv31), hC21.bx⟩
    ·
     obtain rfl := hq9.trans hc3
     refine cw_true Z (cw_seq (Zr (Zo Z Z Z (Za Z Z (Zn (Ze (Zy (Zh ?_))))))))
     obtain rfl := sj h
     exact ew_ret (res1 Z (.tmp Z)) ⟨_, Z, (VRep.mono hC20.back (vslice_nil (R := RBox) (w := w20) (M := M))), hC20.bx⟩
  ·
   subst hc2
   refine cw_true Z (cw_seq (Zr (Zo Z Z Z (Za Z Z (Zn (Ze (Zy (Zh ?_))))))))
   obtain rfl := sj h
   exact ew_ret (res1 Z (.tmp Z)) ⟨_, Z, (VRep.mono hC4.back (vslice_nil (R := RBox) (w := w4) (M := M))), hC4.bx⟩
 ·
  subst hc1
  refine lw_off Z Z Z Z Z Z (lw_off Z Z Z Z Z Z (lw_off Z Z Z Z Z Z (Zo Z Z Z (ow_pickT Z Z Z (Zn (Ze (cw_true Z (cw_seq (Zr (Zo Z Z Z (Za Z Z (Zn (Ze (Zy (Zh ?_)))))))))))))))
  obtain rfl := sj h
  exact ew_ret (res1 Z (.tmp Z)) ⟨_, Z, (VRep.mono hC3.back (vslice_nil (R := RBox) (w := w3) (M := M))), hC3.bx⟩


end Go.PF
