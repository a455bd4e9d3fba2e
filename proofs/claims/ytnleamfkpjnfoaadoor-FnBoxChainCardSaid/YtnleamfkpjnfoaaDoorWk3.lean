/- The walks; no condition. -/
import Derived.Test.YtnleamfkpjnfoaaDoorProg
import Derived.Test.YtnleamfkpjnfoaaDoorWk2
import Derived.Test.YtnleamfkpjnfoaaDoorPFNew
set_option maxRecDepth 100000
set_option maxHeartbeats 4000000
namespace Go.PF
open Go Go.RowKit Go.Proofs

theorem w_spec_l20Two {w : World} {M : Nat → Prop} (hG : ARep (RArr 4 RShape) w M shapes ⟨0, 0, none⟩) (hO : ∀ b, M b → b < w.heap.size) {g : Nat} {Ax : Option Addr} {cx : Nat} {a_xs : List Int} {a_pos : Int} (hxs : VRep (RSlice RU8) w M a_xs (.slice Ax a_xs.length cx)) (hown : Own w g 98 #[.slice Ax a_xs.length cx, .int .i64 a_pos]) (hgM : M g) {r : Box × Box × Int} (h : F.spec_l20Two a_xs a_pos = some r) :
  Calls Tryd.prog 84 [(.pointer (some ⟨g, 0, none⟩))].toArray w fun e w' => ∃ v, e = .returned v ∧ ((∃ u0 u1, v = .tuple #[u0, u1] ∧ VRep RBox w' M r.1 u0 ∧ VRep RBox w' M r.2.1 u1) ∧ Own w' g 98 #[.slice Ax a_xs.length cx, .int .i64 r.2.2]) ∧ BX (One g) w w' := by
 obtain ⟨i58, hi58, hz58, hs58, hy58⟩ := info58
 have hX : ∀ b, (One g) b → M b := fun b e => e ▸ hgM
 have hC : Cx (One g) w M w M := Cx.start hO hX
 refine walk (N := 44) Tryd.func84 Z Tryd.ntmps84 Z (cw_seq (cw_region (lw_op Z Z Z (ow_alloc Z (Tryd.zeroValue27 _) hC fun g1 w1 hg1 hg2 ho1 hb1 hl1 hC1 => ?_))))
 have hn1 := Nat.ne_of_lt (Nat.lt_of_lt_of_le hown.lt hg1)
 have ho2 := hown.no hb1
 have hm1 : (Add g1 M) g := .inr hgM
 have hm2 : (Add g1 M) g1 := .inl Z
 refine lw_op Z Z Z (ow_alloc Z (Tryd.zeroValue27 _) hC1 fun g2 w2 hg3 hg4 ho3 hb2 hl2 hC2 => ?_)
 have hn2 := Nat.ne_of_lt (Nat.lt_of_lt_of_le ho2.lt hg3)
 have ho4 := ho2.no hb2
 have hm3 : (Add g2 (Add g1 M)) g := .inr hm1
 have hn3 := Nat.ne_of_lt (Nat.lt_of_lt_of_le ho1.lt hg3)
 have ho5 := ho1.no hb2
 have hm4 : (Add g2 (Add g1 M)) g1 := .inr hm2
 have hm5 : (Add g2 (Add g1 M)) g2 := .inl Z
 refine lw_nil (ew_then (cw_seq (cw_region (lw_op Z Z Z (ow_move Z Z ?_)))))
 replace h := bind_some h
 obtain ⟨x1, hx1, h⟩ := h
 refine lw_op Z Z Z (ow_call Z Z Tryd.call73 (w_spec_l20Box (hG.mono (hl1.trans hl2)) hC2.old (VRep.mono (hl1.trans hl2) hxs) ho4 hm3 hx1) fun v1 w3 hv1 => ?_)
 obtain ⟨⟨hv1, ho6⟩, hb3⟩ := hv1
 have hl3 := Le.of_bx (Add g2 (Add g1 M)) hb3 (fun b e => (by rw [show b = g from e]; exact hm3))
 have hC3 := hC2.go hb3 (fun b e => Or.inr e)
 have ho7 := ho5.go hb3 (fun e => hn1 e.symm)
 have ho8 := ho3.go hb3 (fun e => hn2 e.symm)
 refine lw_allocStore (R := RBox) Z Z Z Z Z Z Z Tryd.zeroValue27 Tryd.sizeOf27 Z Z Z (by simp) hv1 hC3 fun p1 w4 hp1 hb4 hl4 hC4 => ?_
 have ho9 := ho6.no hb4
 have ho10 := ho7.no hb4
 have ho11 := ho8.no hb4
 refine lw_nil (ew_then (cw_seq (cw_region (lw_op Z Z Z (ow_move Z Z ?_)))))
 have hz1 := (((hl1.trans hl2).trans hl3).trans hl4)
 replace h := bind_some h
 obtain ⟨x2, hx2, h⟩ := h
 refine lw_op Z Z Z (ow_call Z Z Tryd.call73 (w_spec_l20Box (hG.mono hz1) hC4.old (VRep.mono hz1 hxs) ho9 hm3 hx2) fun v2 w5 hv2 => ?_)
 obtain ⟨⟨hv2, ho12⟩, hb5⟩ := hv2
 have hl5 := Le.of_bx (Add g2 (Add g1 M)) hb5 (fun b e => (by rw [show b = g from e]; exact hm3))
 have hC5 := hC4.go hb5 (fun b e => Or.inr e)
 have ho13 := ho10.go hb5 (fun e => hn1 e.symm)
 have ho14 := ho11.go hb5 (fun e => hn2 e.symm)
 refine lw_op Z Z Z (ow_alloc Z (Tryd.zeroValue27 _) hC5 fun g3 w6 hg5 hg6 ho15 hb6 hl6 hC6 => ?_)
 have hn4 := Nat.ne_of_lt (Nat.lt_of_lt_of_le ho12.lt hg5)
 have ho16 := ho12.no hb6
 have hm6 : (Add g3 (Add g2 (Add g1 M))) g := .inr hm3
 have hn5 := Nat.ne_of_lt (Nat.lt_of_lt_of_le ho13.lt hg5)
 have ho17 := ho13.no hb6
 have hm7 : (Add g3 (Add g2 (Add g1 M))) g1 := .inr hm4
 have hn6 := Nat.ne_of_lt (Nat.lt_of_lt_of_le ho14.lt hg5)
 have ho18 := ho14.no hb6
 have hm8 : (Add g3 (Add g2 (Add g1 M))) g2 := .inr hm5
 have hm9 : (Add g3 (Add g2 (Add g1 M))) g3 := .inl Z
 obtain ⟨A1, c1, rfl, hw1⟩ := open_Box hv2
 refine lw_op0 Z Z (ow_store (X := (One g)) (us := [(.slice A1 x2.1.Sides.length c1)]) (cs' := #[(.slice A1 x2.1.Sides.length c1)]) Z Z Z Z ho15 (Tryd.sizeOf27 _) Z Z Z Z hm9 (.inl hg6) Z hC6 fun w7 ho19 hb7 hl7 hC7 => ?_)
 have ho20 := ho16.go hb7 (fun e => hn4 e)
 have ho21 := ho17.go hb7 (fun e => hn5 e)
 have ho22 := ho18.go hb7 (fun e => hn6 e)
 refine lw_nil (ew_then (cw_seq (cw_seq (cw_region (lw_op Z Z Z (ow_move Z Z ?_))))))
 have hz2 := (((hz1.trans hl5).trans hl6).trans hl7)
 replace h := bind_some h
 obtain ⟨x3, hx3, h⟩ := h
 refine lw_op Z Z Z (ow_call Z Z Tryd.call87 (w_spec_l20Rd_pick (hG.mono hz2) hC7.old (VRep.mono hz2 hxs) ho20 hm6 hx3) fun v3 w8 hv3 => ?_)
 obtain ⟨⟨hv3, ho23⟩, hb8⟩ := hv3
 have hl8 := Le.of_bx (Add g3 (Add g2 (Add g1 M))) hb8 (fun b e => (by rw [show b = g from e]; exact hm6))
 have hC8 := hC7.go hb8 (fun b e => Or.inr e)
 have ho24 := ho21.go hb8 (fun e => hn1 e.symm)
 have ho25 := ho22.go hb8 (fun e => hn2 e.symm)
 have ho26 := ho19.go hb8 (fun e => hn4 e.symm)
 obtain rfl := vint_eq hv3
 refine lw_nil (ew_then (cw_block (cw_seq (cw_region (lw_op Z Z Z (ow_eqlI Z Z Z fun bb1 hbb1 => lw_op Z Z Z (ow_assign Z Z (lw_nil (ew_then ?_)))))))))
 replace h := cond_some h
 rcases h with ⟨hc1, h⟩ | ⟨hc1, h⟩
 ·
  obtain rfl := hbb1.trans hc1
  refine cw_true Z (cw_seq (cw_region ?_))
  have hz3 := (((hl5.trans hl6).trans hl7).trans hl8)
  refine lw_op Z Z Z (ow_load (R := RBox) Z Z (ARep.mono hz3 hp1) (Tryd.sizeOf27 _) (Tryd.isAgg27 _) fun v4 hv4 => lw_op Z Z Z (ow_loadOwnA Z Z Z ho26 (Tryd.isAgg27 _) (Tryd.sizeOf27 _) Z ?_))
  have hz4 := ((hl6.trans hl7).trans hl8)
  have hw2 : VRep RBox w8 (Add g3 (Add g2 (Add g1 M))) ({ Sides := x2.1.Sides } : Box) (.agg #[(.slice A1 x2.1.Sides.length c1)]) := shut_Box (VRep.mono hz4 hw1)
  replace h := bind_some h
  obtain ⟨x4, hx4, h⟩ := h
  refine lw_op Z Z Z (ow_call Z Z Tryd.call44 (w_spec_BoxMeet (hG.mono (hz2.trans hl8)) hC8.old hv4 hw2 hx4) fun v5 w9 hv5 => ?_)
  obtain ⟨hv5, hb9⟩ := hv5
  have hl9 := Le.no (Add g3 (Add g2 (Add g1 M))) hb9
  have hC9 := hC8.no hb9
  have ho27 := ho23.no hb9
  have ho28 := ho24.no hb9
  have ho29 := ho25.no hb9
  have ho30 := ho26.no hb9
  obtain ⟨A2, c2, rfl, hw3⟩ := open_Box hv5
  refine lw_op0 Z Z (ow_store (X := (One g)) (us := [(.slice A2 x4.Sides.length c2)]) (cs' := #[(.slice A2 x4.Sides.length c2)]) Z Z Z Z ho30 (Tryd.sizeOf27 _) Z Z Z Z hm9 (.inl hg6) Z hC9 fun w10 ho31 hb10 hl10 hC10 => ?_)
  have ho32 := ho27.go hb10 (fun e => hn4 e)
  have ho33 := ho28.go hb10 (fun e => hn5 e)
  have ho34 := ho29.go hb10 (fun e => hn6 e)
  refine lw_nil (ew_then (cw_seq (cw_region (lw_op Z Z Z (ow_fieldAddr Z Z Tryd.underlying27 Z (Tryd.sizeOf25 _) (lw_op Z Z Z (ow_loadOwn1 Z Z Z ho31 (Tryd.isAgg25 _) Z (lw_op Z Z Z (ow_len Z Z (VRep.mono hl10 hw3) Tryd.underlying25 Z (lw_op Z Z Z (ow_eqlI Z Z Z fun bb2 hbb2 => lw_nil (ew_then ?_))))))))))))
  replace h := cond_some h
  rcases h with ⟨hc2, h⟩ | ⟨hc2, h⟩
  ·
   obtain rfl := hbb2.trans hc2
   refine cw_true Z (cw_region ?_)
   replace h := bind_some h
   obtain ⟨x5, hx5, h⟩ := h
   have hz5 := (((hz2.trans hl8).trans hl9).trans hl10)
   refine lw_op Z Z Z (ow_call Z Z Tryd.call59 (wo_spec_BoxAll (hG.mono hz5) hC10.old hx5) fun v6 w11 hv6 => ?_)
   obtain ⟨⟨M1, v7, rfl, hr1, hk1⟩, hb11⟩ := hv6
   replace hr1 := hr1.base hC10.bx.size
   have hl11 := hk1.le
   have hC11 := hC10.trans hk1
   have ho35 := ho32.no hb11
   have ho36 := ho33.no hb11
   have hm11 := hk1.sup _ hm7
   have ho37 := ho34.no hb11
   have hm12 := hk1.sup _ hm8
   have ho38 := ho31.no hb11
   have hm13 := hk1.sup _ hm9
   obtain ⟨A3, c3, rfl⟩ := hr1.len
   refine lw_op0 Z Z (ow_store (X := (One g)) (us := [(.slice A3 x5.Sides.length c3)]) (cs' := #[(.slice A3 x5.Sides.length c3)]) Z Z Z Z ho38 (Tryd.sizeOf27 _) Z Z Z Z hm13 (.inl hg6) Z hC11 fun w12 ho39 hb12 hl12 hC12 => ?_)
   have ho40 := ho35.go hb12 (fun e => hn4 e)
   have ho41 := ho36.go hb12 (fun e => hn5 e)
   have ho42 := ho37.go hb12 (fun e => hn6 e)
   have hr2 := hr1.go hb12 (fun k hk e => (orow_ne hr1 ho38 (by decide)) (hk.trans (congrArg some e))) hl12 (fun _ h => h)
   refine lw_nil (ew_blockN (ew_then (cw_seq (cw_tree (by kernel_rfl) fun w13 hS1 => ?_))))
   have hl13 := Le.no M1 hS1
   have hC13 := hC12.no hS1
   have ho43 := ho40.no hS1
   have ho44 := ho41.no hS1
   have ho45 := ho42.no hS1
   have ho46 := ho39.no hS1
   have hr3 := hr2.no hS1
   refine tw_step (i := 0) (js := [1]) (by kernel_rfl) ⟨?_, ?_, trivial⟩
   ·
    have hz6 := (((((hz3.trans hl9).trans hl10).trans hl11).trans hl12).trans hl13)
    refine nd_op Z Z Z Z (ow_load (R := RBox) Z Z (ARep.mono hz6 hp1) (Tryd.sizeOf27 _) (Tryd.isAgg27 _) fun v8 hv8 => tw_step (i := 1) (js := [2]) (by kernel_rfl) ⟨?_, ?_, trivial⟩)
    ·
     refine nd_op Z Z Z Z (ow_loadOwnA Z Z Z ho46 (Tryd.isAgg27 _) (Tryd.sizeOf27 _) Z ?_)
     have hw4 := hr3.freezeDel
     have hC14 := hr3.cxDel hC13 hX hO
     have hl14 := Le.del w13 M1 (.slice A3 x5.Sides.length c3)
     have hm15 : (Del (.slice A3 x5.Sides.length c3) M1) g1 := ⟨hm11, fun e => (orow_ne hr3 ho44 (by decide)) e⟩
     have hm16 : (Del (.slice A3 x5.Sides.length c3) M1) g2 := ⟨hm12, fun e => (orow_ne hr3 ho45 (by decide)) e⟩
     refine tw_step (i := 2) (js := []) (by kernel_rfl) ⟨?_, trivial⟩
     obtain ⟨A4, c4, rfl, hw6⟩ := open_Box hv8
     refine nd_op0 Z Z Z (ow_store (X := (One g)) (us := [(.slice A4 x1.1.Sides.length c4)]) (cs' := #[(.slice A4 x1.1.Sides.length c4)]) Z Z Z Z ho44 (Tryd.sizeOf27 _) Z Z Z Z hm15 (.inl hg2) Z hC14 fun w14 ho47 hb13 hl15 hC15 => ?_)
     have ho48 := ho43.go hb13 (fun e => hn1 e)
     have ho49 := ho45.go hb13 (fun e => hn3 e.symm)
     refine tw_step (i := 3) (js := []) (by kernel_rfl) ⟨(nd_op0 Z Z Z (ow_store (X := (One g)) (us := [(.slice A3 x5.Sides.length c3)]) (cs' := #[(.slice A3 x5.Sides.length c3)]) Z Z Z Z ho49 (Tryd.sizeOf27 _) Z Z Z Z hm16 (.inl hg4) Z hC15 fun w15 ho51 hb14 hl16 hC16 => ?_)), trivial⟩
     have ho52 := ho48.go hb14 (fun e => hn2 e)
     have ho53 := ho47.go hb14 (fun e => hn3 e)
     refine tw_end (by kernel_rfl) (ew_then (cw_ret ?_))
     have hz7 := ((hl14.trans hl15).trans hl16)
     have hw7 : VRep RBox w15 (Del (.slice A3 x5.Sides.length c3) M1) ({ Sides := x1.1.Sides } : Box) (.agg #[(.slice A4 x1.1.Sides.length c4)]) := shut_Box (VRep.mono hz7 hw6)
     have hw8 : VRep RBox w15 (Del (.slice A3 x5.Sides.length c3) M1) ({ Sides := x5.Sides } : Box) (.agg #[(.slice A3 x5.Sides.length c3)]) := shut_Box (VRep.mono (hl15.trans hl16) hw4)
     obtain rfl := Option.some.inj h
     exact ew_ret (res2 Z (.cell Z (own_loadVarA ho53 (Tryd.isAgg27 _) (Tryd.sizeOf27 _) Z)) (.cell Z (own_loadVarA ho51 (Tryd.isAgg27 _) (Tryd.sizeOf27 _) Z))) ⟨_, Z, ⟨⟨_, _, Z, (hw7.mono hC16.back), (hw8.mono hC16.back)⟩, ho52⟩, hC16.bx⟩
    ·
     obtain ⟨A5, c5, rfl, hw9⟩ := open_Box hv8
     refine nd_op0 Z Z Z (ow_store (X := (One g)) (us := [(.slice A5 x1.1.Sides.length c5)]) (cs' := #[(.slice A5 x1.1.Sides.length c5)]) Z Z Z Z ho44 (Tryd.sizeOf27 _) Z Z Z Z hm11 (.inl hg2) Z hC13 fun w16 ho55 hb15 hl17 hC17 => ?_)
     have ho56 := ho43.go hb15 (fun e => hn1 e)
     have ho57 := ho45.go hb15 (fun e => hn3 e.symm)
     have ho58 := ho46.go hb15 (fun e => hn5 e.symm)
     have hr4 := hr3.go hb15 (fun k hk e => (orow_ne hr3 ho44 (by decide)) (hk.trans (congrArg some e))) hl17 (fun _ h => h)
     refine tw_step (i := 1) (js := []) (by kernel_rfl) ⟨(nd_op Z Z Z Z (ow_loadOwnA Z Z Z ho58 (Tryd.isAgg27 _) (Tryd.sizeOf27 _) Z ?_)), trivial⟩
     have hw10 := hr4.freezeDel
     have hC18 := hr4.cxDel hC17 hX hO
     have hl18 := Le.del w16 M1 (.slice A3 x5.Sides.length c3)
     have hm20 : (Del (.slice A3 x5.Sides.length c3) M1) g2 := ⟨hm12, fun e => (orow_ne hr4 ho57 (by decide)) e⟩
     refine tw_step (i := 3) (js := []) (by kernel_rfl) ⟨(nd_op0 Z Z Z (ow_store (X := (One g)) (us := [(.slice A3 x5.Sides.length c3)]) (cs' := #[(.slice A3 x5.Sides.length c3)]) Z Z Z Z ho57 (Tryd.sizeOf27 _) Z Z Z Z hm20 (.inl hg4) Z hC18 fun w17 ho59 hb16 hl19 hC19 => ?_)), trivial⟩
     have ho60 := ho56.go hb16 (fun e => hn2 e)
     have ho61 := ho55.go hb16 (fun e => hn3 e)
     refine tw_end (by kernel_rfl) (ew_then (cw_ret ?_))
     have hz8 := ((hl17.trans hl18).trans hl19)
     have hw12 : VRep RBox w17 (Del (.slice A3 x5.Sides.length c3) M1) ({ Sides := x1.1.Sides } : Box) (.agg #[(.slice A5 x1.1.Sides.length c5)]) := shut_Box (VRep.mono hz8 hw9)
     have hw13 : VRep RBox w17 (Del (.slice A3 x5.Sides.length c3) M1) ({ Sides := x5.Sides } : Box) (.agg #[(.slice A3 x5.Sides.length c3)]) := shut_Box (VRep.mono hl19 hw10)
     obtain rfl := Option.some.inj h
     exact ew_ret (res2 Z (.cell Z (own_loadVarA ho61 (Tryd.isAgg27 _) (Tryd.sizeOf27 _) Z)) (.cell Z (own_loadVarA ho59 (Tryd.isAgg27 _) (Tryd.sizeOf27 _) Z))) ⟨_, Z, ⟨⟨_, _, Z, (hw12.mono hC19.back), (hw13.mono hC19.back)⟩, ho60⟩, hC19.bx⟩
   ·
    refine nd_op Z Z Z Z (ow_loadOwnA Z Z Z ho46 (Tryd.isAgg27 _) (Tryd.sizeOf27 _) Z ?_)
    have hw14 := hr3.freezeDel
    have hC20 := hr3.cxDel hC13 hX hO
    have hl20 := Le.del w13 M1 (.slice A3 x5.Sides.length c3)
    have hm23 : (Del (.slice A3 x5.Sides.length c3) M1) g1 := ⟨hm11, fun e => (orow_ne hr3 ho44 (by decide)) e⟩
    have hm24 : (Del (.slice A3 x5.Sides.length c3) M1) g2 := ⟨hm12, fun e => (orow_ne hr3 ho45 (by decide)) e⟩
    refine tw_step (i := 0) (js := []) (by kernel_rfl) ⟨?_, trivial⟩
    have hz9 := ((((((hz3.trans hl9).trans hl10).trans hl11).trans hl12).trans hl13).trans hl20)
    refine nd_op Z Z Z Z (ow_load (R := RBox) Z Z (ARep.mono hz9 hp1) (Tryd.sizeOf27 _) (Tryd.isAgg27 _) fun v9 hv9 => tw_step (i := 2) (js := []) (by kernel_rfl) ⟨?_, trivial⟩)
    obtain ⟨A6, c6, rfl, hw16⟩ := open_Box hv9
    refine nd_op0 Z Z Z (ow_store (X := (One g)) (us := [(.slice A6 x1.1.Sides.length c6)]) (cs' := #[(.slice A6 x1.1.Sides.length c6)]) Z Z Z Z ho44 (Tryd.sizeOf27 _) Z Z Z Z hm23 (.inl hg2) Z hC20 fun w18 ho63 hb17 hl21 hC21 => ?_)
    have ho64 := ho43.go hb17 (fun e => hn1 e)
    have ho65 := ho45.go hb17 (fun e => hn3 e.symm)
    refine tw_step (i := 3) (js := []) (by kernel_rfl) ⟨(nd_op0 Z Z Z (ow_store (X := (One g)) (us := [(.slice A3 x5.Sides.length c3)]) (cs' := #[(.slice A3 x5.Sides.length c3)]) Z Z Z Z ho65 (Tryd.sizeOf27 _) Z Z Z Z hm24 (.inl hg4) Z hC21 fun w19 ho67 hb18 hl22 hC22 => ?_)), trivial⟩
    have ho68 := ho64.go hb18 (fun e => hn2 e)
    have ho69 := ho63.go hb18 (fun e => hn3 e)
    refine tw_end (by kernel_rfl) (ew_then (cw_ret ?_))
    have hw17 : VRep RBox w19 (Del (.slice A3 x5.Sides.length c3) M1) ({ Sides := x1.1.Sides } : Box) (.agg #[(.slice A6 x1.1.Sides.length c6)]) := shut_Box (VRep.mono (hl21.trans hl22) hw16)
    have hw18 : VRep RBox w19 (Del (.slice A3 x5.Sides.length c3) M1) ({ Sides := x5.Sides } : Box) (.agg #[(.slice A3 x5.Sides.length c3)]) := shut_Box (VRep.mono (hl21.trans hl22) hw14)
    obtain rfl := Option.some.inj h
    exact ew_ret (res2 Z (.cell Z (own_loadVarA ho69 (Tryd.isAgg27 _) (Tryd.sizeOf27 _) Z)) (.cell Z (own_loadVarA ho67 (Tryd.isAgg27 _) (Tryd.sizeOf27 _) Z))) ⟨_, Z, ⟨⟨_, _, Z, (hw17.mono hC22.back), (hw18.mono hC22.back)⟩, ho68⟩, hC22.bx⟩
  ·
   obtain rfl := hbb2.trans hc2
   refine cw_false Z (cw_skip (ew_blockN (ew_then (cw_seq (cw_tree (by kernel_rfl) fun w20 hS2 => ?_)))))
   have hl23 := Le.no (Add g3 (Add g2 (Add g1 M))) hS2
   have hC23 := hC10.no hS2
   have ho71 := ho32.no hS2
   have ho72 := ho33.no hS2
   have ho73 := ho34.no hS2
   have ho74 := ho31.no hS2
   refine tw_step (i := 0) (js := [1]) (by kernel_rfl) ⟨?_, ?_, trivial⟩
   ·
    have hz10 := (((hz3.trans hl9).trans hl10).trans hl23)
    refine nd_op Z Z Z Z (ow_load (R := RBox) Z Z (ARep.mono hz10 hp1) (Tryd.sizeOf27 _) (Tryd.isAgg27 _) fun v10 hv10 => tw_step (i := 1) (js := [2]) (by kernel_rfl) ⟨?_, ?_, trivial⟩)
    ·
     refine nd_op Z Z Z Z (ow_loadOwnA Z Z Z ho74 (Tryd.isAgg27 _) (Tryd.sizeOf27 _) Z (tw_step (i := 2) (js := []) (by kernel_rfl) ⟨?_, trivial⟩))
     obtain ⟨A7, c7, rfl, hw20⟩ := open_Box hv10
     refine nd_op0 Z Z Z (ow_store (X := (One g)) (us := [(.slice A7 x1.1.Sides.length c7)]) (cs' := #[(.slice A7 x1.1.Sides.length c7)]) Z Z Z Z ho72 (Tryd.sizeOf27 _) Z Z Z Z hm7 (.inl hg2) Z hC23 fun w21 ho75 hb19 hl24 hC24 => ?_)
     have ho76 := ho71.go hb19 (fun e => hn1 e)
     have ho77 := ho73.go hb19 (fun e => hn3 e.symm)
     refine tw_step (i := 3) (js := []) (by kernel_rfl) ⟨(nd_op0 Z Z Z (ow_store (X := (One g)) (us := [(.slice A2 x4.Sides.length c2)]) (cs' := #[(.slice A2 x4.Sides.length c2)]) Z Z Z Z ho77 (Tryd.sizeOf27 _) Z Z Z Z hm8 (.inl hg4) Z hC24 fun w22 ho79 hb20 hl25 hC25 => ?_)), trivial⟩
     have ho80 := ho76.go hb20 (fun e => hn2 e)
     have ho81 := ho75.go hb20 (fun e => hn3 e)
     refine tw_end (by kernel_rfl) (ew_then (cw_ret ?_))
     have hw21 : VRep RBox w22 (Add g3 (Add g2 (Add g1 M))) ({ Sides := x1.1.Sides } : Box) (.agg #[(.slice A7 x1.1.Sides.length c7)]) := shut_Box (VRep.mono (hl24.trans hl25) hw20)
     have hz11 := (((hl10.trans hl23).trans hl24).trans hl25)
     have hw22 : VRep RBox w22 (Add g3 (Add g2 (Add g1 M))) ({ Sides := x4.Sides } : Box) (.agg #[(.slice A2 x4.Sides.length c2)]) := shut_Box (VRep.mono hz11 hw3)
     obtain rfl := Option.some.inj h
     exact ew_ret (res2 Z (.cell Z (own_loadVarA ho81 (Tryd.isAgg27 _) (Tryd.sizeOf27 _) Z)) (.cell Z (own_loadVarA ho79 (Tryd.isAgg27 _) (Tryd.sizeOf27 _) Z))) ⟨_, Z, ⟨⟨_, _, Z, (hw21.mono hC25.back), (hw22.mono hC25.back)⟩, ho80⟩, hC25.bx⟩
    ·
     obtain ⟨A8, c8, rfl, hw23⟩ := open_Box hv10
     refine nd_op0 Z Z Z (ow_store (X := (One g)) (us := [(.slice A8 x1.1.Sides.length c8)]) (cs' := #[(.slice A8 x1.1.Sides.length c8)]) Z Z Z Z ho72 (Tryd.sizeOf27 _) Z Z Z Z hm7 (.inl hg2) Z hC23 fun w23 ho83 hb21 hl26 hC26 => ?_)
     have ho84 := ho71.go hb21 (fun e => hn1 e)
     have ho85 := ho73.go hb21 (fun e => hn3 e.symm)
     have ho86 := ho74.go hb21 (fun e => hn5 e.symm)
     refine tw_step (i := 1) (js := []) (by kernel_rfl) ⟨(nd_op Z Z Z Z (ow_loadOwnA Z Z Z ho86 (Tryd.isAgg27 _) (Tryd.sizeOf27 _) Z ?_)), trivial⟩
     have hz12 := ((hl10.trans hl23).trans hl26)
     refine tw_step (i := 3) (js := []) (by kernel_rfl) ⟨(nd_op0 Z Z Z (ow_store (X := (One g)) (us := [(.slice A2 x4.Sides.length c2)]) (cs' := #[(.slice A2 x4.Sides.length c2)]) Z Z Z Z ho85 (Tryd.sizeOf27 _) Z Z Z Z hm8 (.inl hg4) Z hC26 fun w24 ho87 hb22 hl27 hC27 => ?_)), trivial⟩
     have ho88 := ho84.go hb22 (fun e => hn2 e)
     have ho89 := ho83.go hb22 (fun e => hn3 e)
     refine tw_end (by kernel_rfl) (ew_then (cw_ret ?_))
     have hw25 : VRep RBox w24 (Add g3 (Add g2 (Add g1 M))) ({ Sides := x1.1.Sides } : Box) (.agg #[(.slice A8 x1.1.Sides.length c8)]) := shut_Box (VRep.mono (hl26.trans hl27) hw23)
     have hw26 : VRep RBox w24 (Add g3 (Add g2 (Add g1 M))) ({ Sides := x4.Sides } : Box) (.agg #[(.slice A2 x4.Sides.length c2)]) := shut_Box (VRep.mono (hz12.trans hl27) hw3)
     obtain rfl := Option.some.inj h
     exact ew_ret (res2 Z (.cell Z (own_loadVarA ho89 (Tryd.isAgg27 _) (Tryd.sizeOf27 _) Z)) (.cell Z (own_loadVarA ho87 (Tryd.isAgg27 _) (Tryd.sizeOf27 _) Z))) ⟨_, Z, ⟨⟨_, _, Z, (hw25.mono hC27.back), (hw26.mono hC27.back)⟩, ho88⟩, hC27.bx⟩
   ·
    refine nd_op Z Z Z Z (ow_loadOwnA Z Z Z ho74 (Tryd.isAgg27 _) (Tryd.sizeOf27 _) Z (tw_step (i := 0) (js := []) (by kernel_rfl) ⟨?_, trivial⟩))
    have hz13 := (((hz3.trans hl9).trans hl10).trans hl23)
    refine nd_op Z Z Z Z (ow_load (R := RBox) Z Z (ARep.mono hz13 hp1) (Tryd.sizeOf27 _) (Tryd.isAgg27 _) fun v11 hv11 => tw_step (i := 2) (js := []) (by kernel_rfl) ⟨?_, trivial⟩)
    obtain ⟨A9, c9, rfl, hw28⟩ := open_Box hv11
    refine nd_op0 Z Z Z (ow_store (X := (One g)) (us := [(.slice A9 x1.1.Sides.length c9)]) (cs' := #[(.slice A9 x1.1.Sides.length c9)]) Z Z Z Z ho72 (Tryd.sizeOf27 _) Z Z Z Z hm7 (.inl hg2) Z hC23 fun w25 ho91 hb23 hl28 hC28 => ?_)
    have ho92 := ho71.go hb23 (fun e => hn1 e)
    have ho93 := ho73.go hb23 (fun e => hn3 e.symm)
    refine tw_step (i := 3) (js := []) (by kernel_rfl) ⟨(nd_op0 Z Z Z (ow_store (X := (One g)) (us := [(.slice A2 x4.Sides.length c2)]) (cs' := #[(.slice A2 x4.Sides.length c2)]) Z Z Z Z ho93 (Tryd.sizeOf27 _) Z Z Z Z hm8 (.inl hg4) Z hC28 fun w26 ho95 hb24 hl29 hC29 => ?_)), trivial⟩
    have ho96 := ho92.go hb24 (fun e => hn2 e)
    have ho97 := ho91.go hb24 (fun e => hn3 e)
    refine tw_end (by kernel_rfl) (ew_then (cw_ret ?_))
    have hw29 : VRep RBox w26 (Add g3 (Add g2 (Add g1 M))) ({ Sides := x1.1.Sides } : Box) (.agg #[(.slice A9 x1.1.Sides.length c9)]) := shut_Box (VRep.mono (hl28.trans hl29) hw28)
    have hz14 := (((hl10.trans hl23).trans hl28).trans hl29)
    have hw30 : VRep RBox w26 (Add g3 (Add g2 (Add g1 M))) ({ Sides := x4.Sides } : Box) (.agg #[(.slice A2 x4.Sides.length c2)]) := shut_Box (VRep.mono hz14 hw3)
    obtain rfl := Option.some.inj h
    exact ew_ret (res2 Z (.cell Z (own_loadVarA ho97 (Tryd.isAgg27 _) (Tryd.sizeOf27 _) Z)) (.cell Z (own_loadVarA ho95 (Tryd.isAgg27 _) (Tryd.sizeOf27 _) Z))) ⟨_, Z, ⟨⟨_, _, Z, (hw29.mono hC29.back), (hw30.mono hC29.back)⟩, ho96⟩, hC29.bx⟩
 ·
  obtain rfl := hbb1.trans hc1
  refine cw_false Z (cw_seq (cw_region (lw_op Z Z Z (ow_eqlI Z Z Z fun bb3 hbb3 => lw_op Z Z Z (ow_assign Z Z (lw_nil (ew_then ?_)))))))
  replace h := cond_some h
  rcases h with ⟨hc3, h⟩ | ⟨hc3, h⟩
  ·
   obtain rfl := hbb3.trans hc3
   refine cw_true Z (cw_seq (cw_region ?_))
   have hz15 := (((hl5.trans hl6).trans hl7).trans hl8)
   refine lw_op Z Z Z (ow_load (R := RBox) Z Z (ARep.mono hz15 hp1) (Tryd.sizeOf27 _) (Tryd.isAgg27 _) fun v12 hv12 => ?_)
   replace h := bind_some h
   obtain ⟨x6, hx6, h⟩ := h
   refine lw_op Z Z Z (ow_call Z Z Tryd.call38 (w_spec_BoxValid (hG.mono (hz2.trans hl8)) hC8.old hv12 hx6) fun v13 w27 hv13 => ?_)
   obtain ⟨hv13, hb25⟩ := hv13
   have hl30 := Le.no (Add g3 (Add g2 (Add g1 M))) hb25
   have hC30 := hC8.no hb25
   have ho99 := ho23.no hb25
   have ho100 := ho24.no hb25
   have ho101 := ho25.no hb25
   have ho102 := ho26.no hb25
   obtain rfl := vbool_eq hv13
   refine lw_nil (ew_then ?_)
   replace h := cond_some h
   rcases h with ⟨hc4, h⟩ | ⟨hc4, h⟩
   ·
    subst hc4
    refine cw_true Z (cw_seq (cw_region (lw_op Z Z Z (ow_move Z Z ?_))))
    have hz16 := ((hz2.trans hl8).trans hl30)
    replace h := bind_some h
    obtain ⟨x7, hx7, h⟩ := h
    refine lw_op Z Z Z (ow_call Z Z Tryd.call87 (w_spec_l20Rd_pick (hG.mono hz16) hC30.old (VRep.mono hz16 hxs) ho99 hm6 hx7) fun v14 w28 hv14 => ?_)
    obtain ⟨⟨hv14, ho103⟩, hb26⟩ := hv14
    have hl31 := Le.of_bx (Add g3 (Add g2 (Add g1 M))) hb26 (fun b e => (by rw [show b = g from e]; exact hm6))
    have hC31 := hC30.go hb26 (fun b e => Or.inr e)
    have ho104 := ho100.go hb26 (fun e => hn1 e.symm)
    have ho105 := ho101.go hb26 (fun e => hn2 e.symm)
    have ho106 := ho102.go hb26 (fun e => hn4 e.symm)
    obtain rfl := vint_eq hv14
    refine lw_op Z Z Z (ow_assign Z Z (lw_nil (ew_then (cw_seq (cw_region (lw_op Z Z Z (ow_buildSlice0 (R := (RSlice RSpan)) (e := 58) Z (by kernel_rfl) hC31 fun p2 w29 M2 hr5 hb27 hl32 hC32 hM1 hat1 => ?_)))))))
    have ho107 := ho103.no hb27
    have hm26 := hM1 _ hm6
    have ho108 := ho104.no hb27
    have hm27 := hM1 _ hm7
    have ho109 := ho105.no hb27
    have hm28 := hM1 _ hm8
    have ho110 := ho106.no hb27
    have hm29 := hM1 _ hm9
    refine lw_op Z Z Z (ow_fieldAddr Z Z Tryd.underlying27 Z (Tryd.sizeOf25 _) ?_)
    have hz17 := (((hz15.trans hl30).trans hl31).trans hl32)
    refine lw_op Z Z Z (ow_load (R := (RSlice (RSlice RSpan))) Z Z (ARep.mono hz17 (hp1.fld fld_Box_Sides)) (Tryd.sizeOf25 _) (Tryd.isAgg25 _) fun v15 hv15 => ?_)
    replace h := bind_some h
    obtain ⟨z1, hz1, h⟩ := h
    refine lw_op Z Z Z (ow_append (R := (RSlice RSpan)) Z Z Z Z Tryd.underlying25 hi58 hz58 hs58 hy58 Z Z Z Z hr5 hv15 hz1 hC32 fun v16 w30 M3 hr6 hb28 hl33 hC33 hM2 hat2 => ?_)
    have ho111 := ho107.go hb28 (fun e => (orow_ne hr5 ho107 (by decide)) e)
    have hm30 := hM2 _ hm26
    have ho112 := ho108.go hb28 (fun e => (orow_ne hr5 ho108 (by decide)) e)
    have hm31 := hM2 _ hm27
    have ho113 := ho109.go hb28 (fun e => (orow_ne hr5 ho109 (by decide)) e)
    have hm32 := hM2 _ hm28
    have ho114 := ho110.go hb28 (fun e => (orow_ne hr5 ho110 (by decide)) e)
    have hm33 := hM2 _ hm29
    obtain ⟨A10, c10, rfl⟩ := hr6.len
    refine lw_op Z Z Z (ow_build (v := .agg #[(.slice A10 z1.length c10)]) Z Z (by kernel_rfl) (lw_op0 Z Z (ow_store (X := (One g)) (us := [(.slice A10 z1.length c10)]) (cs' := #[(.slice A10 z1.length c10)]) Z Z Z Z ho114 (Tryd.sizeOf27 _) Z Z Z Z hm33 (.inl hg6) Z hC33 fun w31 ho115 hb29 hl34 hC34 => ?_)))
    have ho116 := ho111.go hb29 (fun e => hn4 e)
    have ho117 := ho112.go hb29 (fun e => hn5 e)
    have ho118 := ho113.go hb29 (fun e => hn6 e)
    have hr7 := hr6.go hb29 (fun k hk e => (orow_ne hr6 ho114 (by decide)) (hk.trans (congrArg some e))) hl34 (fun _ h => h)
    refine lw_nil (ew_then ?_)
    replace h := bind_some h
    obtain ⟨x8, hx8, h⟩ := h
    replace h := bind_some h
    obtain ⟨x9, hx9, h⟩ := h
    have hz18 := ((((hz16.trans hl31).trans hl32).trans hl33).trans hl34)
    have hz20 := ((hz17.trans hl33).trans hl34)
    refine cw_sub (E' := [(0, (.pointer (some ⟨g, 0, none⟩))), (2, (.pointer (some ⟨g1, 0, none⟩))), (3, (.pointer (some ⟨g2, 0, none⟩))), (4, (.pointer (some p1))), (5, (.pointer (some ⟨g3, 0, none⟩))), (6, (.int .i64 x7.1))]) ⟨Z, Z, Z, Z, Z, Z, trivial⟩ (cw_drawC (g := g) (T := 98) 7 1 [none, none, none, none, none, none, some 0] [#[(.slice Ax a_xs.length cx), (.int .i64 x7.2)], #[(.slice Ax a_xs.length cx), (.int .i64 x9.2)]] [PEq (.pointer (some ⟨g3, 0, none⟩)), PEq (.slice A10 z1.length c10), PEq (.int .i64 x7.1), PEq (.pointer (some ⟨g, 0, none⟩)), PEq (.int .i64 x7.1), PEq (.int .i64 x8), PV (RSlice RSpan) M3 x9.1] (by kernel_rfl) Z (by kernel_rfl) (by kernel_rfl) ho116 ⟨(PEq.monoY hm30 _), (PEq.monoY hm30 _), (PEq.monoY hm30 _), (PEq.monoY hm30 _), (PEq.monoY hm30 _), (PEq.monoY hm30 _), (PV.monoY hm30 _ _), trivial⟩ ⟨?_, ?_, ?_, ?_, ?_, ?_, ?_, trivial⟩ ?_)
    ·
     intro w34 D hS3 hd1
     exact dg_sub (E' := [(5, (.pointer (some ⟨g3, 0, none⟩)))]) ⟨Z, trivial⟩ (dg_plain Z (ow_fieldAddr Z Z Tryd.underlying27 Z (Tryd.sizeOf25 _) ⟨BX.refl _ _, Z⟩))
    ·
     intro w35 D hS4 hd2
     have ho132 := ho115.go hS4 (fun e => hn4 e.symm)
     exact dg_sub (E' := [(34, (.pointer (some ⟨g3, 0, none⟩)))]) ⟨(dpE hd2 0 Z Z), trivial⟩ (dg_plain Z (ow_loadOwn1 Z Z Z ho132 (Tryd.isAgg25 _) Z ⟨BX.refl _ _, Z⟩))
    ·
     intro w36 D hS5 hd3
     exact dg_sub (E' := [(6, (.int .i64 x7.1))]) ⟨Z, trivial⟩ (dg_plain Z (ow_move Z Z ⟨BX.refl _ _, Z⟩))
    ·
     intro w37 D hS6 hd4
     exact dg_sub (E' := [(0, (.pointer (some ⟨g, 0, none⟩)))]) ⟨Z, trivial⟩ (dg_plain Z (ow_move Z Z ⟨BX.refl _ _, Z⟩))
    ·
     intro w38 D hS7 hd5
     exact dg_sub (E' := [(6, (.int .i64 x7.1))]) ⟨Z, trivial⟩ (dg_plain Z (ow_move Z Z ⟨BX.refl _ _, Z⟩))
    ·
     intro w39 D hS8 hd6
     have hl42 := leY hm30 hS8
     have hC42 := hC34.go hS8 (fun b e => Or.inr e)
     refine dg_sub (E' := [(38, (.int .i64 x7.1))]) ⟨(dpE hd6 4 Z Z), trivial⟩ (dg_plain Z (ow_call Z Z Tryd.call81 (w_spec_FieldTop (hG.mono (hz18.trans hl42)) hC42.old hx8) fun v19 w40 hv19 => ?_))
     obtain ⟨hv19, hb32⟩ := hv19
     obtain rfl := vint_eq hv19
     exact ⟨hb32, Z⟩
    ·
     intro w41 D hS9 hd7
     obtain ⟨hS9, ho148⟩ := hS9
     have ho148 : Own w41 g 98 #[(.slice Ax a_xs.length cx), (.int .i64 x7.2)] := ho148
     have hl44 := leY hm30 hS9
     have hC44 := hC34.go hS9 (fun b e => Or.inr e)
     refine dg_sub (E' := [(37, (.pointer (some ⟨g, 0, none⟩))), (39, (.int .i64 x8))]) ⟨(dpE hd7 3 Z Z), (dpE hd7 5 Z Z), trivial⟩ (dg_plain Z (ow_call Z Z Tryd.call98 (w_spec_l20Set (hG.mono (hz18.trans hl44)) hC44.old (VRep.mono (hz18.trans hl44) hxs) ho148 hm30 hx9) fun v20 w42 hv20 => ?_))
     obtain ⟨⟨hv20, ho152⟩, hb33⟩ := hv20
     exact ⟨⟨⟨hS9.trans hb33, ho152⟩, hb33⟩, hv20⟩
    ·
     intro w43 D hS10 hd8
     have d12 : PV (RSlice RSpan) M3 x9.1 (D 6) w43 := dpA hd8 6 Z
     obtain ⟨hS10, ho156⟩ := hS10
     have ho156 : Own w43 g 98 #[(.slice Ax a_xs.length cx), (.int .i64 x9.2)] := ho156
     have hl46 := leY hm30 hS10
     have hC46 := hC34.go hS10 (fun b e => Or.inr e)
     have ho157 := ho117.go hS10 (fun e => hn1 e.symm)
     have ho158 := ho118.go hS10 (fun e => hn2 e.symm)
     have ho159 := ho115.go hS10 (fun e => hn4 e.symm)
     have hr19 := hr7.go hS10 (fun k hk e => (orow_ne hr7 ho116 (by decide)) (hk.trans (congrArg some e))) hl46 (fun _ h => h)
     generalize hq1 : (D 6) = v21 at d12
     refine lw_sub (E' := [(35, (.slice A10 z1.length c10)), (36, (.int .i64 x7.1)), (40, v21), (0, (.pointer (some ⟨g, 0, none⟩))), (2, (.pointer (some ⟨g1, 0, none⟩))), (3, (.pointer (some ⟨g2, 0, none⟩))), (4, (.pointer (some p1))), (5, (.pointer (some ⟨g3, 0, none⟩))), (6, (.int .i64 x7.1))]) ⟨(dpE hd8 1 Z Z), (dpE hd8 2 Z Z), (congrArg some hq1), Z, Z, Z, Z, Z, Z, trivial⟩ ?_
     replace h := bind_some h
     obtain ⟨x10, hx10, h⟩ := h
     refine lw_op Z Z Z (ow_indexRow (R := (RSlice RSpan)) Z Z Z hr19 Tryd.underlying25 (Tryd.sizeOf58 _) hx10 (lw_op0 Z Z (ow_storeElRow (X := (One g)) (R := (RSlice RSpan)) (S := (RSlice RSpan)) Z Z Z Z hr19 (orow_blk hr19 hx10) hx10 (FldSet.whole (RSlice RSpan)) (Tryd.sizeOf58 _) d12 (Nat.le_refl _) hC46 fun w44 ho160 hb34 hl47 hC47 => ?_)))
     have ho161 := ho156.go hb34 (fun e => (orow_ne hr19 ho156 (by decide)) (by rw [orow_blk hr19 hx10]; exact congrArg some e.symm))
     have ho162 := ho157.go hb34 (fun e => (orow_ne hr19 ho157 (by decide)) (by rw [orow_blk hr19 hx10]; exact congrArg some e.symm))
     have ho163 := ho158.go hb34 (fun e => (orow_ne hr19 ho158 (by decide)) (by rw [orow_blk hr19 hx10]; exact congrArg some e.symm))
     have ho164 := ho159.go hb34 (fun e => (orow_ne hr19 ho159 (by decide)) (by rw [orow_blk hr19 hx10]; exact congrArg some e.symm))
     refine lw_nil (ew_blockN (ew_then (cw_seq (cw_tree (by kernel_rfl) fun w45 hS11 => ?_))))
     have hl48 := Le.no M3 hS11
     have hC48 := hC47.no hS11
     have ho165 := ho161.no hS11
     have ho166 := ho162.no hS11
     have ho167 := ho163.no hS11
     have ho168 := ho164.no hS11
     have hr20 := ho160.no hS11
     refine tw_step (i := 0) (js := [1]) (by kernel_rfl) ⟨?_, ?_, trivial⟩
     ·
      have hz24 := (((hz20.trans hl46).trans hl47).trans hl48)
      refine nd_op Z Z Z Z (ow_load (R := RBox) Z Z (ARep.mono hz24 hp1) (Tryd.sizeOf27 _) (Tryd.isAgg27 _) fun v22 hv22 => tw_step (i := 1) (js := [2]) (by kernel_rfl) ⟨?_, ?_, trivial⟩)
      ·
       refine nd_op Z Z Z Z (ow_loadOwnA Z Z Z ho168 (Tryd.isAgg27 _) (Tryd.sizeOf27 _) Z ?_)
       have hw31 := hr20.freezeDel
       have hC49 := hr20.cxDel hC48 hX hO
       have hl49 := Le.del w45 M3 (.slice A10 z1.length c10)
       have hm35 : (Del (.slice A10 z1.length c10) M3) g1 := ⟨hm31, fun e => (orow_ne hr20 ho166 (by decide)) e⟩
       have hm36 : (Del (.slice A10 z1.length c10) M3) g2 := ⟨hm32, fun e => (orow_ne hr20 ho167 (by decide)) e⟩
       refine tw_step (i := 2) (js := []) (by kernel_rfl) ⟨?_, trivial⟩
       obtain ⟨A11, c11, rfl, hw33⟩ := open_Box hv22
       refine nd_op0 Z Z Z (ow_store (X := (One g)) (us := [(.slice A11 x1.1.Sides.length c11)]) (cs' := #[(.slice A11 x1.1.Sides.length c11)]) Z Z Z Z ho166 (Tryd.sizeOf27 _) Z Z Z Z hm35 (.inl hg2) Z hC49 fun w46 ho169 hb35 hl50 hC50 => ?_)
       have ho170 := ho165.go hb35 (fun e => hn1 e)
       have ho171 := ho167.go hb35 (fun e => hn3 e.symm)
       refine tw_step (i := 3) (js := []) (by kernel_rfl) ⟨(nd_op0 Z Z Z (ow_store (X := (One g)) (us := [(.slice A10 z1.length c10)]) (cs' := #[(.slice A10 z1.length c10)]) Z Z Z Z ho171 (Tryd.sizeOf27 _) Z Z Z Z hm36 (.inl hg4) Z hC50 fun w47 ho173 hb36 hl51 hC51 => ?_)), trivial⟩
       have ho174 := ho170.go hb36 (fun e => hn2 e)
       have ho175 := ho169.go hb36 (fun e => hn3 e)
       refine tw_end (by kernel_rfl) (ew_then (cw_ret ?_))
       have hz25 := ((hl49.trans hl50).trans hl51)
       have hw34 : VRep RBox w47 (Del (.slice A10 z1.length c10) M3) ({ Sides := x1.1.Sides } : Box) (.agg #[(.slice A11 x1.1.Sides.length c11)]) := shut_Box (VRep.mono hz25 hw33)
       have hw35 : VRep RBox w47 (Del (.slice A10 z1.length c10) M3) ({ Sides := (List.set z1 (x7.1 : Int).toNat x9.1) } : Box) (.agg #[(.slice A10 z1.length c10)]) := shut_Box (VRep.mono (hl50.trans hl51) hw31)
       obtain rfl := Option.some.inj h
       exact ew_ret (res2 Z (.cell Z (own_loadVarA ho175 (Tryd.isAgg27 _) (Tryd.sizeOf27 _) Z)) (.cell Z (own_loadVarA ho173 (Tryd.isAgg27 _) (Tryd.sizeOf27 _) Z))) ⟨_, Z, ⟨⟨_, _, Z, (hw34.mono hC51.back), (hw35.mono hC51.back)⟩, ho174⟩, hC51.bx⟩
      ·
       obtain ⟨A12, c12, rfl, hw36⟩ := open_Box hv22
       refine nd_op0 Z Z Z (ow_store (X := (One g)) (us := [(.slice A12 x1.1.Sides.length c12)]) (cs' := #[(.slice A12 x1.1.Sides.length c12)]) Z Z Z Z ho166 (Tryd.sizeOf27 _) Z Z Z Z hm31 (.inl hg2) Z hC48 fun w48 ho177 hb37 hl52 hC52 => ?_)
       have ho178 := ho165.go hb37 (fun e => hn1 e)
       have ho179 := ho167.go hb37 (fun e => hn3 e.symm)
       have ho180 := ho168.go hb37 (fun e => hn5 e.symm)
       have hr21 := hr20.go hb37 (fun k hk e => (orow_ne hr20 ho166 (by decide)) (hk.trans (congrArg some e))) hl52 (fun _ h => h)
       refine tw_step (i := 1) (js := []) (by kernel_rfl) ⟨(nd_op Z Z Z Z (ow_loadOwnA Z Z Z ho180 (Tryd.isAgg27 _) (Tryd.sizeOf27 _) Z ?_)), trivial⟩
       have hw37 := hr21.freezeDel
       have hC53 := hr21.cxDel hC52 hX hO
       have hl53 := Le.del w48 M3 (.slice A10 z1.length c10)
       have hm40 : (Del (.slice A10 z1.length c10) M3) g2 := ⟨hm32, fun e => (orow_ne hr21 ho179 (by decide)) e⟩
       refine tw_step (i := 3) (js := []) (by kernel_rfl) ⟨(nd_op0 Z Z Z (ow_store (X := (One g)) (us := [(.slice A10 z1.length c10)]) (cs' := #[(.slice A10 z1.length c10)]) Z Z Z Z ho179 (Tryd.sizeOf27 _) Z Z Z Z hm40 (.inl hg4) Z hC53 fun w49 ho181 hb38 hl54 hC54 => ?_)), trivial⟩
       have ho182 := ho178.go hb38 (fun e => hn2 e)
       have ho183 := ho177.go hb38 (fun e => hn3 e)
       refine tw_end (by kernel_rfl) (ew_then (cw_ret ?_))
       have hz26 := ((hl52.trans hl53).trans hl54)
       have hw39 : VRep RBox w49 (Del (.slice A10 z1.length c10) M3) ({ Sides := x1.1.Sides } : Box) (.agg #[(.slice A12 x1.1.Sides.length c12)]) := shut_Box (VRep.mono hz26 hw36)
       have hw40 : VRep RBox w49 (Del (.slice A10 z1.length c10) M3) ({ Sides := (List.set z1 (x7.1 : Int).toNat x9.1) } : Box) (.agg #[(.slice A10 z1.length c10)]) := shut_Box (VRep.mono hl54 hw37)
       obtain rfl := Option.some.inj h
       exact ew_ret (res2 Z (.cell Z (own_loadVarA ho183 (Tryd.isAgg27 _) (Tryd.sizeOf27 _) Z)) (.cell Z (own_loadVarA ho181 (Tryd.isAgg27 _) (Tryd.sizeOf27 _) Z))) ⟨_, Z, ⟨⟨_, _, Z, (hw39.mono hC54.back), (hw40.mono hC54.back)⟩, ho182⟩, hC54.bx⟩
     ·
      refine nd_op Z Z Z Z (ow_loadOwnA Z Z Z ho168 (Tryd.isAgg27 _) (Tryd.sizeOf27 _) Z ?_)
      have hw41 := hr20.freezeDel
      have hC55 := hr20.cxDel hC48 hX hO
      have hl55 := Le.del w45 M3 (.slice A10 z1.length c10)
      have hm43 : (Del (.slice A10 z1.length c10) M3) g1 := ⟨hm31, fun e => (orow_ne hr20 ho166 (by decide)) e⟩
      have hm44 : (Del (.slice A10 z1.length c10) M3) g2 := ⟨hm32, fun e => (orow_ne hr20 ho167 (by decide)) e⟩
      refine tw_step (i := 0) (js := []) (by kernel_rfl) ⟨?_, trivial⟩
      have hz27 := ((((hz20.trans hl46).trans hl47).trans hl48).trans hl55)
      refine nd_op Z Z Z Z (ow_load (R := RBox) Z Z (ARep.mono hz27 hp1) (Tryd.sizeOf27 _) (Tryd.isAgg27 _) fun v23 hv23 => tw_step (i := 2) (js := []) (by kernel_rfl) ⟨?_, trivial⟩)
      obtain ⟨A13, c13, rfl, hw43⟩ := open_Box hv23
      refine nd_op0 Z Z Z (ow_store (X := (One g)) (us := [(.slice A13 x1.1.Sides.length c13)]) (cs' := #[(.slice A13 x1.1.Sides.length c13)]) Z Z Z Z ho166 (Tryd.sizeOf27 _) Z Z Z Z hm43 (.inl hg2) Z hC55 fun w50 ho185 hb39 hl56 hC56 => ?_)
      have ho186 := ho165.go hb39 (fun e => hn1 e)
      have ho187 := ho167.go hb39 (fun e => hn3 e.symm)
      refine tw_step (i := 3) (js := []) (by kernel_rfl) ⟨(nd_op0 Z Z Z (ow_store (X := (One g)) (us := [(.slice A10 z1.length c10)]) (cs' := #[(.slice A10 z1.length c10)]) Z Z Z Z ho187 (Tryd.sizeOf27 _) Z Z Z Z hm44 (.inl hg4) Z hC56 fun w51 ho189 hb40 hl57 hC57 => ?_)), trivial⟩
      have ho190 := ho186.go hb40 (fun e => hn2 e)
      have ho191 := ho185.go hb40 (fun e => hn3 e)
      refine tw_end (by kernel_rfl) (ew_then (cw_ret ?_))
      have hw44 : VRep RBox w51 (Del (.slice A10 z1.length c10) M3) ({ Sides := x1.1.Sides } : Box) (.agg #[(.slice A13 x1.1.Sides.length c13)]) := shut_Box (VRep.mono (hl56.trans hl57) hw43)
      have hw45 : VRep RBox w51 (Del (.slice A10 z1.length c10) M3) ({ Sides := (List.set z1 (x7.1 : Int).toNat x9.1) } : Box) (.agg #[(.slice A10 z1.length c10)]) := shut_Box (VRep.mono (hl56.trans hl57) hw41)
      obtain rfl := Option.some.inj h
      exact ew_ret (res2 Z (.cell Z (own_loadVarA ho191 (Tryd.isAgg27 _) (Tryd.sizeOf27 _) Z)) (.cell Z (own_loadVarA ho189 (Tryd.isAgg27 _) (Tryd.sizeOf27 _) Z))) ⟨_, Z, ⟨⟨_, _, Z, (hw44.mono hC57.back), (hw45.mono hC57.back)⟩, ho190⟩, hC57.bx⟩
   ·
    subst hc4
    refine cw_false Z (cw_skip (ew_blockN (ew_then (cw_seq (cw_tree (by kernel_rfl) fun w52 hS12 => ?_)))))
    have hl58 := Le.no (Add g3 (Add g2 (Add g1 M))) hS12
    have hC58 := hC30.no hS12
    have ho193 := ho99.no hS12
    have ho194 := ho100.no hS12
    have ho195 := ho101.no hS12
    have ho196 := ho102.no hS12
    refine tw_step (i := 0) (js := [1]) (by kernel_rfl) ⟨?_, ?_, trivial⟩
    ·
     have hz28 := ((hz15.trans hl30).trans hl58)
     refine nd_op Z Z Z Z (ow_load (R := RBox) Z Z (ARep.mono hz28 hp1) (Tryd.sizeOf27 _) (Tryd.isAgg27 _) fun v24 hv24 => tw_step (i := 1) (js := [2]) (by kernel_rfl) ⟨?_, ?_, trivial⟩)
     ·
      refine nd_op Z Z Z Z (ow_loadOwnA Z Z Z ho196 (Tryd.isAgg27 _) (Tryd.sizeOf27 _) Z ?_)
      have hz29 := ((((hl6.trans hl7).trans hl8).trans hl30).trans hl58)
      refine tw_step (i := 2) (js := []) (by kernel_rfl) ⟨?_, trivial⟩
      obtain ⟨A14, c14, rfl, hw47⟩ := open_Box hv24
      refine nd_op0 Z Z Z (ow_store (X := (One g)) (us := [(.slice A14 x1.1.Sides.length c14)]) (cs' := #[(.slice A14 x1.1.Sides.length c14)]) Z Z Z Z ho194 (Tryd.sizeOf27 _) Z Z Z Z hm7 (.inl hg2) Z hC58 fun w53 ho197 hb41 hl59 hC59 => ?_)
      have ho198 := ho193.go hb41 (fun e => hn1 e)
      have ho199 := ho195.go hb41 (fun e => hn3 e.symm)
      refine tw_step (i := 3) (js := []) (by kernel_rfl) ⟨(nd_op0 Z Z Z (ow_store (X := (One g)) (us := [(.slice A1 x2.1.Sides.length c1)]) (cs' := #[(.slice A1 x2.1.Sides.length c1)]) Z Z Z Z ho199 (Tryd.sizeOf27 _) Z Z Z Z hm8 (.inl hg4) Z hC59 fun w54 ho201 hb42 hl60 hC60 => ?_)), trivial⟩
      have ho202 := ho198.go hb42 (fun e => hn2 e)
      have ho203 := ho197.go hb42 (fun e => hn3 e)
      refine tw_end (by kernel_rfl) (ew_then (cw_ret ?_))
      have hw48 : VRep RBox w54 (Add g3 (Add g2 (Add g1 M))) ({ Sides := x1.1.Sides } : Box) (.agg #[(.slice A14 x1.1.Sides.length c14)]) := shut_Box (VRep.mono (hl59.trans hl60) hw47)
      have hz30 := ((hz29.trans hl59).trans hl60)
      have hw49 : VRep RBox w54 (Add g3 (Add g2 (Add g1 M))) ({ Sides := x2.1.Sides } : Box) (.agg #[(.slice A1 x2.1.Sides.length c1)]) := shut_Box (VRep.mono hz30 hw1)
      obtain rfl := Option.some.inj h
      exact ew_ret (res2 Z (.cell Z (own_loadVarA ho203 (Tryd.isAgg27 _) (Tryd.sizeOf27 _) Z)) (.cell Z (own_loadVarA ho201 (Tryd.isAgg27 _) (Tryd.sizeOf27 _) Z))) ⟨_, Z, ⟨⟨_, _, Z, (hw48.mono hC60.back), (hw49.mono hC60.back)⟩, ho202⟩, hC60.bx⟩
     ·
      obtain ⟨A15, c15, rfl, hw50⟩ := open_Box hv24
      refine nd_op0 Z Z Z (ow_store (X := (One g)) (us := [(.slice A15 x1.1.Sides.length c15)]) (cs' := #[(.slice A15 x1.1.Sides.length c15)]) Z Z Z Z ho194 (Tryd.sizeOf27 _) Z Z Z Z hm7 (.inl hg2) Z hC58 fun w55 ho205 hb43 hl61 hC61 => ?_)
      have ho206 := ho193.go hb43 (fun e => hn1 e)
      have ho207 := ho195.go hb43 (fun e => hn3 e.symm)
      have ho208 := ho196.go hb43 (fun e => hn5 e.symm)
      refine tw_step (i := 1) (js := []) (by kernel_rfl) ⟨(nd_op Z Z Z Z (ow_loadOwnA Z Z Z ho208 (Tryd.isAgg27 _) (Tryd.sizeOf27 _) Z ?_)), trivial⟩
      have hz31 := (((((hl6.trans hl7).trans hl8).trans hl30).trans hl58).trans hl61)
      refine tw_step (i := 3) (js := []) (by kernel_rfl) ⟨(nd_op0 Z Z Z (ow_store (X := (One g)) (us := [(.slice A1 x2.1.Sides.length c1)]) (cs' := #[(.slice A1 x2.1.Sides.length c1)]) Z Z Z Z ho207 (Tryd.sizeOf27 _) Z Z Z Z hm8 (.inl hg4) Z hC61 fun w56 ho209 hb44 hl62 hC62 => ?_)), trivial⟩
      have ho210 := ho206.go hb44 (fun e => hn2 e)
      have ho211 := ho205.go hb44 (fun e => hn3 e)
      refine tw_end (by kernel_rfl) (ew_then (cw_ret ?_))
      have hw52 : VRep RBox w56 (Add g3 (Add g2 (Add g1 M))) ({ Sides := x1.1.Sides } : Box) (.agg #[(.slice A15 x1.1.Sides.length c15)]) := shut_Box (VRep.mono (hl61.trans hl62) hw50)
      have hw53 : VRep RBox w56 (Add g3 (Add g2 (Add g1 M))) ({ Sides := x2.1.Sides } : Box) (.agg #[(.slice A1 x2.1.Sides.length c1)]) := shut_Box (VRep.mono (hz31.trans hl62) hw1)
      obtain rfl := Option.some.inj h
      exact ew_ret (res2 Z (.cell Z (own_loadVarA ho211 (Tryd.isAgg27 _) (Tryd.sizeOf27 _) Z)) (.cell Z (own_loadVarA ho209 (Tryd.isAgg27 _) (Tryd.sizeOf27 _) Z))) ⟨_, Z, ⟨⟨_, _, Z, (hw52.mono hC62.back), (hw53.mono hC62.back)⟩, ho210⟩, hC62.bx⟩
    ·
     refine nd_op Z Z Z Z (ow_loadOwnA Z Z Z ho196 (Tryd.isAgg27 _) (Tryd.sizeOf27 _) Z ?_)
     have hz32 := ((((hl6.trans hl7).trans hl8).trans hl30).trans hl58)
     refine tw_step (i := 0) (js := []) (by kernel_rfl) ⟨?_, trivial⟩
     have hz33 := ((hz15.trans hl30).trans hl58)
     refine nd_op Z Z Z Z (ow_load (R := RBox) Z Z (ARep.mono hz33 hp1) (Tryd.sizeOf27 _) (Tryd.isAgg27 _) fun v25 hv25 => tw_step (i := 2) (js := []) (by kernel_rfl) ⟨?_, trivial⟩)
     obtain ⟨A16, c16, rfl, hw55⟩ := open_Box hv25
     refine nd_op0 Z Z Z (ow_store (X := (One g)) (us := [(.slice A16 x1.1.Sides.length c16)]) (cs' := #[(.slice A16 x1.1.Sides.length c16)]) Z Z Z Z ho194 (Tryd.sizeOf27 _) Z Z Z Z hm7 (.inl hg2) Z hC58 fun w57 ho213 hb45 hl63 hC63 => ?_)
     have ho214 := ho193.go hb45 (fun e => hn1 e)
     have ho215 := ho195.go hb45 (fun e => hn3 e.symm)
     refine tw_step (i := 3) (js := []) (by kernel_rfl) ⟨(nd_op0 Z Z Z (ow_store (X := (One g)) (us := [(.slice A1 x2.1.Sides.length c1)]) (cs' := #[(.slice A1 x2.1.Sides.length c1)]) Z Z Z Z ho215 (Tryd.sizeOf27 _) Z Z Z Z hm8 (.inl hg4) Z hC63 fun w58 ho217 hb46 hl64 hC64 => ?_)), trivial⟩
     have ho218 := ho214.go hb46 (fun e => hn2 e)
     have ho219 := ho213.go hb46 (fun e => hn3 e)
     refine tw_end (by kernel_rfl) (ew_then (cw_ret ?_))
     have hw56 : VRep RBox w58 (Add g3 (Add g2 (Add g1 M))) ({ Sides := x1.1.Sides } : Box) (.agg #[(.slice A16 x1.1.Sides.length c16)]) := shut_Box (VRep.mono (hl63.trans hl64) hw55)
     have hz34 := ((hz32.trans hl63).trans hl64)
     have hw57 : VRep RBox w58 (Add g3 (Add g2 (Add g1 M))) ({ Sides := x2.1.Sides } : Box) (.agg #[(.slice A1 x2.1.Sides.length c1)]) := shut_Box (VRep.mono hz34 hw1)
     obtain rfl := Option.some.inj h
     exact ew_ret (res2 Z (.cell Z (own_loadVarA ho219 (Tryd.isAgg27 _) (Tryd.sizeOf27 _) Z)) (.cell Z (own_loadVarA ho217 (Tryd.isAgg27 _) (Tryd.sizeOf27 _) Z))) ⟨_, Z, ⟨⟨_, _, Z, (hw56.mono hC64.back), (hw57.mono hC64.back)⟩, ho218⟩, hC64.bx⟩
  ·
   obtain rfl := hbb3.trans hc3
   refine cw_false Z (cw_skip (ew_blockN (ew_then (cw_seq (cw_tree (by kernel_rfl) fun w59 hS13 => ?_)))))
   have hl65 := Le.no (Add g3 (Add g2 (Add g1 M))) hS13
   have hC65 := hC8.no hS13
   have ho221 := ho23.no hS13
   have ho222 := ho24.no hS13
   have ho223 := ho25.no hS13
   have ho224 := ho26.no hS13
   refine tw_step (i := 0) (js := [1]) (by kernel_rfl) ⟨?_, ?_, trivial⟩
   ·
    have hz35 := ((((hl5.trans hl6).trans hl7).trans hl8).trans hl65)
    refine nd_op Z Z Z Z (ow_load (R := RBox) Z Z (ARep.mono hz35 hp1) (Tryd.sizeOf27 _) (Tryd.isAgg27 _) fun v26 hv26 => tw_step (i := 1) (js := [2]) (by kernel_rfl) ⟨?_, ?_, trivial⟩)
    ·
     refine nd_op Z Z Z Z (ow_loadOwnA Z Z Z ho224 (Tryd.isAgg27 _) (Tryd.sizeOf27 _) Z ?_)
     have hz36 := (((hl6.trans hl7).trans hl8).trans hl65)
     refine tw_step (i := 2) (js := []) (by kernel_rfl) ⟨?_, trivial⟩
     obtain ⟨A17, c17, rfl, hw59⟩ := open_Box hv26
     refine nd_op0 Z Z Z (ow_store (X := (One g)) (us := [(.slice A17 x1.1.Sides.length c17)]) (cs' := #[(.slice A17 x1.1.Sides.length c17)]) Z Z Z Z ho222 (Tryd.sizeOf27 _) Z Z Z Z hm7 (.inl hg2) Z hC65 fun w60 ho225 hb47 hl66 hC66 => ?_)
     have ho226 := ho221.go hb47 (fun e => hn1 e)
     have ho227 := ho223.go hb47 (fun e => hn3 e.symm)
     refine tw_step (i := 3) (js := []) (by kernel_rfl) ⟨(nd_op0 Z Z Z (ow_store (X := (One g)) (us := [(.slice A1 x2.1.Sides.length c1)]) (cs' := #[(.slice A1 x2.1.Sides.length c1)]) Z Z Z Z ho227 (Tryd.sizeOf27 _) Z Z Z Z hm8 (.inl hg4) Z hC66 fun w61 ho229 hb48 hl67 hC67 => ?_)), trivial⟩
     have ho230 := ho226.go hb48 (fun e => hn2 e)
     have ho231 := ho225.go hb48 (fun e => hn3 e)
     refine tw_end (by kernel_rfl) (ew_then (cw_ret ?_))
     have hw60 : VRep RBox w61 (Add g3 (Add g2 (Add g1 M))) ({ Sides := x1.1.Sides } : Box) (.agg #[(.slice A17 x1.1.Sides.length c17)]) := shut_Box (VRep.mono (hl66.trans hl67) hw59)
     have hz37 := ((hz36.trans hl66).trans hl67)
     have hw61 : VRep RBox w61 (Add g3 (Add g2 (Add g1 M))) ({ Sides := x2.1.Sides } : Box) (.agg #[(.slice A1 x2.1.Sides.length c1)]) := shut_Box (VRep.mono hz37 hw1)
     obtain rfl := Option.some.inj h
     exact ew_ret (res2 Z (.cell Z (own_loadVarA ho231 (Tryd.isAgg27 _) (Tryd.sizeOf27 _) Z)) (.cell Z (own_loadVarA ho229 (Tryd.isAgg27 _) (Tryd.sizeOf27 _) Z))) ⟨_, Z, ⟨⟨_, _, Z, (hw60.mono hC67.back), (hw61.mono hC67.back)⟩, ho230⟩, hC67.bx⟩
    ·
     obtain ⟨A18, c18, rfl, hw62⟩ := open_Box hv26
     refine nd_op0 Z Z Z (ow_store (X := (One g)) (us := [(.slice A18 x1.1.Sides.length c18)]) (cs' := #[(.slice A18 x1.1.Sides.length c18)]) Z Z Z Z ho222 (Tryd.sizeOf27 _) Z Z Z Z hm7 (.inl hg2) Z hC65 fun w62 ho233 hb49 hl68 hC68 => ?_)
     have ho234 := ho221.go hb49 (fun e => hn1 e)
     have ho235 := ho223.go hb49 (fun e => hn3 e.symm)
     have ho236 := ho224.go hb49 (fun e => hn5 e.symm)
     refine tw_step (i := 1) (js := []) (by kernel_rfl) ⟨(nd_op Z Z Z Z (ow_loadOwnA Z Z Z ho236 (Tryd.isAgg27 _) (Tryd.sizeOf27 _) Z ?_)), trivial⟩
     have hz38 := ((((hl6.trans hl7).trans hl8).trans hl65).trans hl68)
     refine tw_step (i := 3) (js := []) (by kernel_rfl) ⟨(nd_op0 Z Z Z (ow_store (X := (One g)) (us := [(.slice A1 x2.1.Sides.length c1)]) (cs' := #[(.slice A1 x2.1.Sides.length c1)]) Z Z Z Z ho235 (Tryd.sizeOf27 _) Z Z Z Z hm8 (.inl hg4) Z hC68 fun w63 ho237 hb50 hl69 hC69 => ?_)), trivial⟩
     have ho238 := ho234.go hb50 (fun e => hn2 e)
     have ho239 := ho233.go hb50 (fun e => hn3 e)
     refine tw_end (by kernel_rfl) (ew_then (cw_ret ?_))
     have hw64 : VRep RBox w63 (Add g3 (Add g2 (Add g1 M))) ({ Sides := x1.1.Sides } : Box) (.agg #[(.slice A18 x1.1.Sides.length c18)]) := shut_Box (VRep.mono (hl68.trans hl69) hw62)
     have hw65 : VRep RBox w63 (Add g3 (Add g2 (Add g1 M))) ({ Sides := x2.1.Sides } : Box) (.agg #[(.slice A1 x2.1.Sides.length c1)]) := shut_Box (VRep.mono (hz38.trans hl69) hw1)
     obtain rfl := Option.some.inj h
     exact ew_ret (res2 Z (.cell Z (own_loadVarA ho239 (Tryd.isAgg27 _) (Tryd.sizeOf27 _) Z)) (.cell Z (own_loadVarA ho237 (Tryd.isAgg27 _) (Tryd.sizeOf27 _) Z))) ⟨_, Z, ⟨⟨_, _, Z, (hw64.mono hC69.back), (hw65.mono hC69.back)⟩, ho238⟩, hC69.bx⟩
   ·
    refine nd_op Z Z Z Z (ow_loadOwnA Z Z Z ho224 (Tryd.isAgg27 _) (Tryd.sizeOf27 _) Z ?_)
    have hz39 := (((hl6.trans hl7).trans hl8).trans hl65)
    refine tw_step (i := 0) (js := []) (by kernel_rfl) ⟨?_, trivial⟩
    have hz40 := ((((hl5.trans hl6).trans hl7).trans hl8).trans hl65)
    refine nd_op Z Z Z Z (ow_load (R := RBox) Z Z (ARep.mono hz40 hp1) (Tryd.sizeOf27 _) (Tryd.isAgg27 _) fun v27 hv27 => tw_step (i := 2) (js := []) (by kernel_rfl) ⟨?_, trivial⟩)
    obtain ⟨A19, c19, rfl, hw67⟩ := open_Box hv27
    refine nd_op0 Z Z Z (ow_store (X := (One g)) (us := [(.slice A19 x1.1.Sides.length c19)]) (cs' := #[(.slice A19 x1.1.Sides.length c19)]) Z Z Z Z ho222 (Tryd.sizeOf27 _) Z Z Z Z hm7 (.inl hg2) Z hC65 fun w64 ho241 hb51 hl70 hC70 => ?_)
    have ho242 := ho221.go hb51 (fun e => hn1 e)
    have ho243 := ho223.go hb51 (fun e => hn3 e.symm)
    refine tw_step (i := 3) (js := []) (by kernel_rfl) ⟨(nd_op0 Z Z Z (ow_store (X := (One g)) (us := [(.slice A1 x2.1.Sides.length c1)]) (cs' := #[(.slice A1 x2.1.Sides.length c1)]) Z Z Z Z ho243 (Tryd.sizeOf27 _) Z Z Z Z hm8 (.inl hg4) Z hC70 fun w65 ho245 hb52 hl71 hC71 => ?_)), trivial⟩
    have ho246 := ho242.go hb52 (fun e => hn2 e)
    have ho247 := ho241.go hb52 (fun e => hn3 e)
    refine tw_end (by kernel_rfl) (ew_then (cw_ret ?_))
    have hw68 : VRep RBox w65 (Add g3 (Add g2 (Add g1 M))) ({ Sides := x1.1.Sides } : Box) (.agg #[(.slice A19 x1.1.Sides.length c19)]) := shut_Box (VRep.mono (hl70.trans hl71) hw67)
    have hz41 := ((hz39.trans hl70).trans hl71)
    have hw69 : VRep RBox w65 (Add g3 (Add g2 (Add g1 M))) ({ Sides := x2.1.Sides } : Box) (.agg #[(.slice A1 x2.1.Sides.length c1)]) := shut_Box (VRep.mono hz41 hw1)
    obtain rfl := Option.some.inj h
    exact ew_ret (res2 Z (.cell Z (own_loadVarA ho247 (Tryd.isAgg27 _) (Tryd.sizeOf27 _) Z)) (.cell Z (own_loadVarA ho245 (Tryd.isAgg27 _) (Tryd.sizeOf27 _) Z))) ⟨_, Z, ⟨⟨_, _, Z, (hw68.mono hC71.back), (hw69.mono hC71.back)⟩, ho246⟩, hC71.bx⟩

theorem w_spec_DrawBoxMeet {w : World} {M : Nat → Prop} (hG : ARep (RArr 4 RShape) w M shapes ⟨0, 0, none⟩) (hO : ∀ b, M b → b < w.heap.size) {v0p : Value} {a_code : List Int} (h0 : VRep (RSlice RU8) w M a_code v0p) {r : Box × Box} (h : F.spec_DrawBoxMeet a_code = some r) :
  Calls Tryd.prog 42 [v0p].toArray w fun e w' => ∃ v, e = .returned v ∧ (∃ u0 u1, v = .tuple #[u0, u1] ∧ VRep RBox w' M r.1 u0 ∧ VRep RBox w' M r.2 u1) ∧ BX No w w' := by
 have hC : Cx No w M w M := Cx.start hO (fun _ e => e.elim)
 refine walk (N := 9) Tryd.func42 Z Tryd.ntmps42 Z (cw_seq (cw_region (lw_op Z Z Z (ow_alloc Z (Tryd.zeroValue27 _) hC fun g1 w1 hg1 hg2 ho1 hb1 hl1 hC1 => ?_))))
 have hm1 : (Add g1 M) g1 := .inl Z
 refine lw_op Z Z Z (ow_alloc Z (Tryd.zeroValue27 _) hC1 fun g2 w2 hg3 hg4 ho2 hb2 hl2 hC2 => ?_)
 have hn1 := Nat.ne_of_lt (Nat.lt_of_lt_of_le ho1.lt hg3)
 have ho3 := ho1.no hb2
 have hm2 : (Add g2 (Add g1 M)) g1 := .inr hm1
 have hm3 : (Add g2 (Add g1 M)) g2 := .inl Z
 refine lw_nil (ew_then (cw_seq (cw_region (lw_op Z Z Z (ow_move Z Z ?_)))))
 replace h := bind_some h
 obtain ⟨x1, hx1, h⟩ := h
 refine lw_op Z Z Z (ow_call Z Z Tryd.call54 (w_spec_l20Open (hG.mono (hl1.trans hl2)) hC2.old (VRep.mono (hl1.trans hl2) h0) hx1) fun v1 w3 hv1 => ?_)
 obtain ⟨⟨g3, A1, c1, rfl, hg5, ho4, hw1⟩, hb3⟩ := hv1
 have hl3 := (Le.no (Add g2 (Add g1 M)) hb3).add hg5
 have hg6 := Nat.le_trans hC2.bx.size hg5
 have hC3 := (hC2.no hb3).add ho4.lt hg6
 have hn2 := Nat.ne_of_lt (Nat.lt_of_lt_of_le ho3.lt hg5)
 have ho5 := ho3.no hb3
 have hm4 : (Add g3 (Add g2 (Add g1 M))) g1 := .inr hm2
 have hn3 := Nat.ne_of_lt (Nat.lt_of_lt_of_le ho2.lt hg5)
 have ho6 := ho2.no hb3
 have hm5 : (Add g3 (Add g2 (Add g1 M))) g2 := .inr hm3
 have hm6 : (Add g3 (Add g2 (Add g1 M))) g3 := .inl Z
 replace h := bind_some h
 obtain ⟨x2, hx2, h⟩ := h
 have hz1 := ((hl1.trans hl2).trans hl3)
 refine lw_op Z Z Z (ow_call Z Z Tryd.call84 (w_spec_l20Two (hG.mono hz1) hC3.old hw1 ho4 hm6 hx2) fun v2 w4 hv2 => ?_)
 obtain ⟨⟨⟨v3, v4, rfl, hv3, hv4⟩, ho7⟩, hb4⟩ := hv2
 have hC4 := hC3.go hb4 (fun b e => (by rw [show b = g3 from e]; exact (.inl hg6)))
 have ho8 := ho5.go hb4 (fun e => hn2 e)
 have ho9 := ho6.go hb4 (fun e => hn3 e)
 refine lw_op Z Z Z (ow_extract Z Z Z (lw_op Z Z Z (ow_extract Z Z Z ?_)))
 obtain ⟨A2, c2, rfl, hw2⟩ := open_Box hv3
 refine lw_op0 Z Z (ow_store (X := No) (us := [(.slice A2 x2.1.Sides.length c2)]) (cs' := #[(.slice A2 x2.1.Sides.length c2)]) Z Z Z Z ho8 (Tryd.sizeOf27 _) Z Z Z Z hm4 (.inl hg2) Z hC4 fun w5 ho10 hb5 hl5 hC5 => ?_)
 have ho11 := ho9.go hb5 (fun e => hn1 e.symm)
 obtain ⟨A3, c3, rfl, hw3⟩ := open_Box hv4
 refine lw_op0 Z Z (ow_store (X := No) (us := [(.slice A3 x2.2.1.Sides.length c3)]) (cs' := #[(.slice A3 x2.2.1.Sides.length c3)]) Z Z Z Z ho11 (Tryd.sizeOf27 _) Z Z Z Z hm5 (.inl hg4) Z hC5 fun w6 ho13 hb6 hl6 hC6 => ?_)
 have ho14 := ho10.go hb6 (fun e => hn1 e)
 refine lw_nil (ew_then (cw_ret ?_))
 have hw4 : VRep RBox w6 (Add g3 (Add g2 (Add g1 M))) ({ Sides := x2.1.Sides } : Box) (.agg #[(.slice A2 x2.1.Sides.length c2)]) := shut_Box (VRep.mono (hl5.trans hl6) hw2)
 have hw5 : VRep RBox w6 (Add g3 (Add g2 (Add g1 M))) ({ Sides := x2.2.1.Sides } : Box) (.agg #[(.slice A3 x2.2.1.Sides.length c3)]) := shut_Box (VRep.mono (hl5.trans hl6) hw3)
 obtain rfl := Option.some.inj h
 exact ew_ret (res2 Z (.cell Z (own_loadVarA ho14 (Tryd.isAgg27 _) (Tryd.sizeOf27 _) Z)) (.cell Z (own_loadVarA ho13 (Tryd.isAgg27 _) (Tryd.sizeOf27 _) Z))) ⟨_, Z, ⟨_, _, Z, (hw4.mono hC6.back), (hw5.mono hC6.back)⟩, hC6.bx⟩

theorem w_spec_DrawBoxEmpty {w : World} {M : Nat → Prop} (hG : ARep (RArr 4 RShape) w M shapes ⟨0, 0, none⟩) (hO : ∀ b, M b → b < w.heap.size) {v0p : Value} {a_code : List Int} (h0 : VRep (RSlice RU8) w M a_code v0p) {r : Box} (h : F.spec_DrawBoxEmpty a_code = some r) :
  Calls Tryd.prog 43 [v0p].toArray w fun e w' => ∃ v, e = .returned v ∧ VRep RBox w' M r v ∧ BX No w w' := by
 have hC : Cx No w M w M := Cx.start hO (fun _ e => e.elim)
 refine walk (N := 6) Tryd.func43 Z Tryd.ntmps43 Z (cw_seq (cw_region (lw_op Z Z Z (ow_alloc Z (Tryd.zeroValue27 _) hC fun g1 w1 hg1 hg2 ho1 hb1 hl1 hC1 => ?_))))
 have hm1 : (Add g1 M) g1 := .inl Z
 refine lw_nil (ew_then (cw_seq (cw_region (lw_op Z Z Z (ow_move Z Z ?_)))))
 replace h := bind_some h
 obtain ⟨x1, hx1, h⟩ := h
 refine lw_op Z Z Z (ow_call Z Z Tryd.call54 (w_spec_l20Open (hG.mono hl1) hC1.old (VRep.mono hl1 h0) hx1) fun v1 w2 hv1 => ?_)
 obtain ⟨⟨g2, A1, c1, rfl, hg3, ho2, hw1⟩, hb2⟩ := hv1
 have hl2 := (Le.no (Add g1 M) hb2).add hg3
 have hg4 := Nat.le_trans hC1.bx.size hg3
 have hC2 := (hC1.no hb2).add ho2.lt hg4
 have hn1 := Nat.ne_of_lt (Nat.lt_of_lt_of_le ho1.lt hg3)
 have ho3 := ho1.no hb2
 have hm2 : (Add g2 (Add g1 M)) g1 := .inr hm1
 have hm3 : (Add g2 (Add g1 M)) g2 := .inl Z
 replace h := bind_some h
 obtain ⟨x2, hx2, h⟩ := h
 refine lw_op Z Z Z (ow_call Z Z Tryd.call73 (w_spec_l20Box (hG.mono (hl1.trans hl2)) hC2.old hw1 ho2 hm3 hx2) fun v2 w3 hv2 => ?_)
 obtain ⟨⟨hv2, ho4⟩, hb3⟩ := hv2
 have hC3 := hC2.go hb3 (fun b e => (by rw [show b = g2 from e]; exact (.inl hg4)))
 have ho5 := ho3.go hb3 (fun e => hn1 e)
 obtain ⟨A2, c2, rfl, hw2⟩ := open_Box hv2
 refine lw_op0 Z Z (ow_store (X := No) (us := [(.slice A2 x2.1.Sides.length c2)]) (cs' := #[(.slice A2 x2.1.Sides.length c2)]) Z Z Z Z ho5 (Tryd.sizeOf27 _) Z Z Z Z hm2 (.inl hg2) Z hC3 fun w4 ho6 hb4 hl4 hC4 => lw_nil (ew_then (cw_ret ?_)))
 have hw3 : VRep RBox w4 (Add g2 (Add g1 M)) ({ Sides := x2.1.Sides } : Box) (.agg #[(.slice A2 x2.1.Sides.length c2)]) := shut_Box (VRep.mono hl4 hw2)
 obtain rfl := Option.some.inj h
 exact ew_ret (res1 Z (.cell Z (own_loadVarA ho6 (Tryd.isAgg27 _) (Tryd.sizeOf27 _) Z))) ⟨_, Z, (hw3.mono hC4.back), hC4.bx⟩

theorem w_laws_FnBoxChain {w : World} {M : Nat → Prop} (hG : ARep (RArr 4 RShape) w M shapes ⟨0, 0, none⟩) (hO : ∀ b, M b → b < w.heap.size) {v0p : Value} {a_code : List Int} (h0 : VRep (RSlice RU8) w M a_code v0p) {v1p : Value} {a_more : List Int} (h1 : VRep (RSlice RU8) w M a_more v1p) {r : Bool} (h : F.laws_FnBoxChain a_code a_more = some r) :
  Calls Tryd.prog 10 [v0p, v1p].toArray w fun e w' => ∃ v, e = .returned v ∧ VRep RBool w' M r v ∧ BX No w w' := by
 have hC : Cx No w M w M := Cx.start hO (fun _ e => e.elim)
 refine walk (N := 70) Tryd.func10 Z Tryd.ntmps10 Z (cw_seq (cw_region (lw_op Z Z Z (ow_assign Z Z (lw_nil (ew_then (cw_seq (cw_seq (cw_region (lw_op Z Z Z (ow_move Z Z (lw_op Z Z Z (ow_len Z Z h0 Tryd.underlying22 Z (lw_op Z Z Z (ow_gtr Z Z Z fun bb1 hbb1 => lw_op Z Z Z (ow_move Z Z ?_))))))))))))))))
 replace h := cond_some h
 rcases h with ⟨hc1, h⟩ | ⟨hc1, h⟩
 ·
  obtain rfl := hbb1.trans hc1
  refine lw_off Z Z Z Z Z Z (lw_off Z Z Z Z Z Z (lw_off Z Z Z Z Z Z (lw_op Z Z Z (ow_pickT Z Z Z (lw_nil (ew_then (cw_true Z (cw_seq (cw_region (lw_op Z Z Z (ow_assign Z Z (lw_nil (ew_then (cw_ret (ew_thenR ?_)))))))))))))))
  obtain rfl := Option.some.inj h
  exact ew_ret (res1 Z (.tmp Z)) ⟨_, Z, ((vbool _)), hC.bx⟩
 ·
  obtain rfl := hbb1.trans hc1
  refine lw_on Z Z Z Z Z Z (ow_move Z Z (lw_on Z Z Z Z Z Z (ow_len Z Z h1 Tryd.underlying22 Z (lw_on Z Z Z Z Z Z (ow_gtr Z Z Z fun bb2 hbb2 => lw_op Z Z Z (ow_pickF Z Z Z (lw_nil (ew_then ?_))))))))
  replace h := cond_some h
  rcases h with ⟨hc2, h⟩ | ⟨hc2, h⟩
  ·
   obtain rfl := hbb2.trans hc2
   refine cw_true Z (cw_seq (cw_region (lw_op Z Z Z (ow_assign Z Z (lw_nil (ew_then (cw_ret (ew_thenR ?_))))))))
   obtain rfl := Option.some.inj h
   exact ew_ret (res1 Z (.tmp Z)) ⟨_, Z, ((vbool _)), hC.bx⟩
  ·
   obtain rfl := hbb2.trans hc2
   refine cw_false Z (cw_skip (ew_then (cw_seq (cw_region (lw_op Z Z Z (ow_move Z Z ?_))))))
   replace h := bind_some h
   obtain ⟨x1, hx1, h⟩ := h
   refine lw_op Z Z Z (ow_call Z Z Tryd.call42 (w_spec_DrawBoxMeet hG hC.old h0 hx1) fun v1 w1 hv1 => ?_)
   obtain ⟨⟨v2, v3, rfl, hv2, hv3⟩, hb1⟩ := hv1
   have hl1 := Le.no M hb1
   have hC1 := hC.no hb1
   refine lw_op Z Z Z (ow_move Z Z (lw_op Z Z Z (ow_extract Z Z Z (lw_op Z Z Z (ow_extract Z Z Z (lw_op Z Z Z (ow_alloc Z (Tryd.zeroValue27 _) hC1 fun g1 w2 hg1 hg2 ho1 hb2 hl2 hC2 => ?_)))))))
   have hm1 : (Add g1 M) g1 := .inl Z
   refine lw_op Z Z Z (ow_alloc Z (Tryd.zeroValue27 _) hC2 fun g2 w3 hg3 hg4 ho2 hb3 hl3 hC3 => ?_)
   have hn1 := Nat.ne_of_lt (Nat.lt_of_lt_of_le ho1.lt hg3)
   have ho3 := ho1.no hb3
   have hm2 : (Add g2 (Add g1 M)) g1 := .inr hm1
   have hm3 : (Add g2 (Add g1 M)) g2 := .inl Z
   obtain ⟨A1, c1, rfl, hw1⟩ := open_Box hv2
   refine lw_op0 Z Z (ow_store (X := No) (us := [(.slice A1 x1.1.Sides.length c1)]) (cs' := #[(.slice A1 x1.1.Sides.length c1)]) Z Z Z Z ho3 (Tryd.sizeOf27 _) Z Z Z Z hm2 (.inl hg2) Z hC3 fun w4 ho4 hb4 hl4 hC4 => ?_)
   have ho5 := ho2.go hb4 (fun e => hn1 e.symm)
   obtain ⟨A2, c2, rfl, hw2⟩ := open_Box hv3
   refine lw_op0 Z Z (ow_store (X := No) (us := [(.slice A2 x1.2.Sides.length c2)]) (cs' := #[(.slice A2 x1.2.Sides.length c2)]) Z Z Z Z ho5 (Tryd.sizeOf27 _) Z Z Z Z hm3 (.inl hg4) Z hC4 fun w5 ho6 hb5 hl5 hC5 => ?_)
   have ho7 := ho4.go hb5 (fun e => hn1 e)
   refine lw_nil (ew_then (cw_seq (cw_region (lw_op Z Z Z (ow_move Z Z ?_)))))
   have hz1 := ((((hl1.trans hl2).trans hl3).trans hl4).trans hl5)
   replace h := bind_some h
   obtain ⟨x2, hx2, h⟩ := h
   refine lw_op Z Z Z (ow_call Z Z Tryd.call43 (w_spec_DrawBoxEmpty (hG.mono hz1) hC5.old (VRep.mono hz1 h1) hx2) fun v4 w6 hv4 => ?_)
   obtain ⟨hv4, hb6⟩ := hv4
   have hl6 := Le.no (Add g2 (Add g1 M)) hb6
   have hC6 := hC5.no hb6
   have ho8 := ho7.no hb6
   have ho9 := ho6.no hb6
   refine lw_allocStore (R := RBox) Z Z Z Z Z Z Z Tryd.zeroValue27 Tryd.sizeOf27 Z Z Z (by simp) hv4 hC6 fun p1 w7 hp1 hb7 hl7 hC7 => ?_
   have ho10 := ho8.no hb7
   have ho11 := ho9.no hb7
   refine lw_nil (ew_then (cw_seq (cw_region (lw_op Z Z Z (ow_loadOwnA Z Z Z ho10 (Tryd.isAgg27 _) (Tryd.sizeOf27 _) Z ?_)))))
   have hz2 := (((((hl2.trans hl3).trans hl4).trans hl5).trans hl6).trans hl7)
   have hw3 : VRep RBox w7 (Add g2 (Add g1 M)) ({ Sides := x1.1.Sides } : Box) (.agg #[(.slice A1 x1.1.Sides.length c1)]) := shut_Box (VRep.mono hz2 hw1)
   refine lw_op Z Z Z (ow_loadOwnA Z Z Z ho11 (Tryd.isAgg27 _) (Tryd.sizeOf27 _) Z ?_)
   have hw4 : VRep RBox w7 (Add g2 (Add g1 M)) ({ Sides := x1.2.Sides } : Box) (.agg #[(.slice A2 x1.2.Sides.length c2)]) := shut_Box (VRep.mono hz2 hw2)
   replace h := bind_some h
   obtain ⟨x3, hx3, h⟩ := h
   have hz3 := ((hz1.trans hl6).trans hl7)
   refine lw_op Z Z Z (ow_call Z Z Tryd.call28 (w_impl_BoxMeet (hG.mono hz3) hC7.old hw3 hw4 hx3) fun v5 w8 hv5 => ?_)
   obtain ⟨hv5, hb8⟩ := hv5
   have hl8 := Le.no (Add g2 (Add g1 M)) hb8
   have hC8 := hC7.no hb8
   have ho12 := ho10.no hb8
   have ho13 := ho11.no hb8
   refine lw_allocStore (R := RBox) Z Z Z Z Z Z Z Tryd.zeroValue27 Tryd.sizeOf27 Z Z Z (by simp) hv5 hC8 fun p2 w9 hp2 hb9 hl9 hC9 => ?_
   have ho14 := ho12.no hb9
   have ho15 := ho13.no hb9
   refine lw_nil (ew_then (cw_seq (cw_seq ?_)))
   replace h := bind_some h
   obtain ⟨x4, hx4, h⟩ := h
   have hz4 := ((hz3.trans hl8).trans hl9)
   have hz5 := ((hz2.trans hl8).trans hl9)
   have hz7 := (hl8.trans hl9)
   refine cw_sub (E' := [(4, (.bool false)), (5, (.pointer (some ⟨g1, 0, none⟩))), (6, (.pointer (some ⟨g2, 0, none⟩))), (7, (.pointer (some p1))), (8, (.pointer (some p2)))]) ⟨Z, Z, Z, Z, Z, trivial⟩ (cw_drawQ 4 [PV RBox (Add g2 (Add g1 M)) x3, PV RBox (Add g2 (Add g1 M)) ({ Sides := x1.1.Sides } : Box), PV RBox (Add g2 (Add g1 M)) ({ Sides := x1.2.Sides } : Box), PV RBox (Add g2 (Add g1 M)) x4] (by kernel_rfl) Z (by kernel_rfl) ⟨PV.mono _ _ _, PV.mono _ _ _, PV.mono _ _ _, PV.mono _ _ _, trivial⟩ ⟨?_, ?_, ?_, ?_, trivial⟩ ?_)
   ·
    intro w11 D hS1 hd1
    have hl11 := Le.no (Add g2 (Add g1 M)) hS1
    exact dg_sub (E' := [(8, (.pointer (some p2)))]) ⟨Z, trivial⟩ (dg_plain Z (ow_load (R := RBox) Z Z (ARep.mono hl11 hp2) (Tryd.sizeOf27 _) (Tryd.isAgg27 _) fun v8 hv8 => ⟨BX.refl _ _, hv8⟩))
   ·
    intro w12 D hS2 hd2
    have hl12 := Le.no (Add g2 (Add g1 M)) hS2
    have ho20 := ho14.no hS2
    refine dg_sub (E' := [(5, (.pointer (some ⟨g1, 0, none⟩)))]) ⟨Z, trivial⟩ (dg_plain Z (ow_loadOwnA Z Z Z ho20 (Tryd.isAgg27 _) (Tryd.sizeOf27 _) Z ?_))
    have hw7 : VRep RBox w12 (Add g2 (Add g1 M)) ({ Sides := x1.1.Sides } : Box) (.agg #[(.slice A1 x1.1.Sides.length c1)]) := shut_Box (VRep.mono (hz5.trans hl12) hw1)
    exact ⟨BX.refl _ _, hw7⟩
   ·
    intro w13 D hS3 hd3
    have hl13 := Le.no (Add g2 (Add g1 M)) hS3
    have ho23 := ho15.no hS3
    refine dg_sub (E' := [(6, (.pointer (some ⟨g2, 0, none⟩)))]) ⟨Z, trivial⟩ (dg_plain Z (ow_loadOwnA Z Z Z ho23 (Tryd.isAgg27 _) (Tryd.sizeOf27 _) Z ?_))
    have hw8 : VRep RBox w13 (Add g2 (Add g1 M)) ({ Sides := x1.2.Sides } : Box) (.agg #[(.slice A2 x1.2.Sides.length c2)]) := shut_Box (VRep.mono (hz5.trans hl13) hw2)
    exact ⟨BX.refl _ _, hw8⟩
   ·
    intro w14 D hS4 hd4
    have hl14 := Le.no (Add g2 (Add g1 M)) hS4
    have hC14 := hC9.no hS4
    have d1 : PV RBox (Add g2 (Add g1 M)) ({ Sides := x1.1.Sides } : Box) (D 1) w14 := dpA hd4 1 Z
    have d2 : PV RBox (Add g2 (Add g1 M)) ({ Sides := x1.2.Sides } : Box) (D 2) w14 := dpA hd4 2 Z
    generalize hq1 : (D 1) = v9 at d1
    generalize hq2 : (D 2) = v10 at d2
    refine dg_sub (E' := [(29, v9), (30, v10)]) ⟨(congrArg some hq1), (congrArg some hq2), trivial⟩ (dg_plain Z (ow_call Z Z Tryd.call44 (w_spec_BoxMeet (hG.mono (hz4.trans hl14)) hC14.old d1 d2 hx4) fun v11 w15 hv11 => ?_))
    obtain ⟨hv11, hb11⟩ := hv11
    exact ⟨hb11, hv11⟩
   ·
    intro w16 D hS5 hd5
    have d3 : PV RBox (Add g2 (Add g1 M)) x3 (D 0) w16 := dpA hd5 0 Z
    have d6 : PV RBox (Add g2 (Add g1 M)) x4 (D 3) w16 := dpA hd5 3 Z
    have hl16 := Le.no (Add g2 (Add g1 M)) hS5
    have hC16 := hC9.no hS5
    have ho28 := ho14.no hS5
    have ho29 := ho15.no hS5
    generalize hq3 : (D 0) = v12 at d3
    generalize hq4 : (D 3) = v13 at d6
    refine lw_sub (E' := [(28, v12), (31, v13), (4, (.bool false)), (5, (.pointer (some ⟨g1, 0, none⟩))), (6, (.pointer (some ⟨g2, 0, none⟩))), (7, (.pointer (some p1))), (8, (.pointer (some p2)))]) ⟨(congrArg some hq3), (congrArg some hq4), Z, Z, Z, Z, Z, trivial⟩ ?_
    replace h := bind_some h
    obtain ⟨x5, hx5, h⟩ := h
    refine lw_op Z Z Z (ow_call Z Z Tryd.call17 (w_laws_sameBox (hG.mono (hz4.trans hl16)) hC16.old d3 d6 hx5) fun v14 w17 hv14 => ?_)
    obtain ⟨hv14, hb12⟩ := hv14
    have hl17 := Le.no (Add g2 (Add g1 M)) hb12
    have hC17 := hC16.no hb12
    have ho30 := ho28.no hb12
    have ho31 := ho29.no hb12
    obtain rfl := vbool_eq hv14
    refine lw_op Z Z Z (ow_not Z Z (lw_nil (ew_then ?_)))
    replace h := cond_some h
    rcases h with ⟨hc3, h⟩ | ⟨hc3, h⟩
    ·
     subst hc3
     refine cw_false Z (cw_skip (ew_then (cw_seq (cw_seq (cw_region (lw_op Z Z Z (ow_loadOwnA Z Z Z ho30 (Tryd.isAgg27 _) (Tryd.sizeOf27 _) Z ?_)))))))
     have hz8 := ((hz5.trans hl16).trans hl17)
     have hw9 : VRep RBox w17 (Add g2 (Add g1 M)) ({ Sides := x1.1.Sides } : Box) (.agg #[(.slice A1 x1.1.Sides.length c1)]) := shut_Box (VRep.mono hz8 hw1)
     replace h := bind_some h
     obtain ⟨x6, hx6, h⟩ := h
     have hz9 := ((hz4.trans hl16).trans hl17)
     refine lw_op Z Z Z (ow_call Z Z Tryd.call38 (w_spec_BoxValid (hG.mono hz9) hC17.old hw9 hx6) fun v15 w18 hv15 => ?_)
     obtain ⟨hv15, hb13⟩ := hv15
     have hl18 := Le.no (Add g2 (Add g1 M)) hb13
     have hC18 := hC17.no hb13
     have ho32 := ho30.no hb13
     have ho33 := ho31.no hb13
     obtain rfl := vbool_eq hv15
     refine lw_op Z Z Z (ow_not Z Z (lw_op Z Z Z (ow_move Z Z ?_)))
     replace h := cond_some h
     rcases h with ⟨hc4, h⟩ | ⟨hc4, h⟩
     ·
      subst hc4
      refine lw_on Z Z Z Z Z Z (ow_loadOwnA Z Z Z ho33 (Tryd.isAgg27 _) (Tryd.sizeOf27 _) Z ?_)
      have hw10 : VRep RBox w18 (Add g2 (Add g1 M)) ({ Sides := x1.2.Sides } : Box) (.agg #[(.slice A2 x1.2.Sides.length c2)]) := shut_Box (VRep.mono (hz8.trans hl18) hw2)
      replace h := bind_some h
      obtain ⟨x7, hx7, h⟩ := h
      refine lw_on Z Z Z Z Z Z (ow_call Z Z Tryd.call38 (w_spec_BoxValid (hG.mono (hz9.trans hl18)) hC18.old hw10 hx7) fun v16 w19 hv16 => ?_)
      obtain ⟨hv16, hb14⟩ := hv16
      have hl19 := Le.no (Add g2 (Add g1 M)) hb14
      have hC19 := hC18.no hb14
      have ho34 := ho32.no hb14
      have ho35 := ho33.no hb14
      obtain rfl := vbool_eq hv16
      refine lw_on Z Z Z Z Z Z (ow_not Z Z (lw_op Z Z Z (ow_pickF Z Z Z (lw_op Z Z Z (ow_move Z Z ?_)))))
      replace h := cond_some h
      rcases h with ⟨hc5, h⟩ | ⟨hc5, h⟩
      ·
       subst hc5
       have hz10 := ((((hz7.trans hl16).trans hl17).trans hl18).trans hl19)
       refine lw_on Z Z Z Z Z Z (ow_load (R := RBox) Z Z (ARep.mono hz10 hp1) (Tryd.sizeOf27 _) (Tryd.isAgg27 _) fun v17 hv17 => ?_)
       replace h := bind_some h
       obtain ⟨x8, hx8, h⟩ := h
       have hz11 := ((hz9.trans hl18).trans hl19)
       refine lw_on Z Z Z Z Z Z (ow_call Z Z Tryd.call38 (w_spec_BoxValid (hG.mono hz11) hC19.old hv17 hx8) fun v18 w20 hv18 => ?_)
       obtain ⟨hv18, hb15⟩ := hv18
       have hl20 := Le.no (Add g2 (Add g1 M)) hb15
       have hC20 := hC19.no hb15
       have ho36 := ho34.no hb15
       have ho37 := ho35.no hb15
       obtain rfl := vbool_eq hv18
       refine lw_on Z Z Z Z Z Z (ow_not Z Z (lw_op Z Z Z (ow_pickF Z Z Z (lw_op Z Z Z (ow_move Z Z ?_)))))
       replace h := cond_some h
       rcases h with ⟨hc6, h⟩ | ⟨hc6, h⟩
       ·
        subst hc6
        refine lw_on Z Z Z Z Z Z (ow_fieldAddr Z Z Tryd.underlying27 Z (Tryd.sizeOf25 _) ?_)
        have hz12 := ((((hl16.trans hl17).trans hl18).trans hl19).trans hl20)
        refine lw_on Z Z Z Z Z Z (ow_load (R := (RSlice (RSlice RSpan))) Z Z (ARep.mono hz12 (hp2.fld fld_Box_Sides)) (Tryd.sizeOf25 _) (Tryd.isAgg25 _) fun v19 hv19 => lw_on Z Z Z Z Z Z (ow_len Z Z hv19 Tryd.underlying25 Z (lw_on Z Z Z Z Z Z (ow_eqlI Z Z Z fun bb3 hbb3 => lw_op Z Z Z (ow_pickF Z Z Z (lw_nil (ew_then ?_)))))))
        replace h := cond_some h
        rcases h with ⟨hc7, h⟩ | ⟨hc7, h⟩
        ·
         obtain rfl := hbb3.trans hc7
         refine cw_true Z (cw_seq (cw_region ?_))
         replace h := bind_some h
         obtain ⟨x9, hx9, h⟩ := h
         refine lw_op Z Z Z (ow_call Z Z Tryd.call19 (w_laws_alive (hG.mono (hz11.trans hl20)) hC20.old hx9) fun v20 w21 hv20 => ?_)
         obtain ⟨hv20, hb16⟩ := hv20
         have hC21 := hC20.no hb16
         obtain rfl := vbool_eq hv20
         refine lw_op Z Z Z (ow_assign Z Z (lw_nil (ew_then (cw_ret (ew_thenR ?_)))))
         obtain rfl := Option.some.inj h
         exact ew_ret (res1 Z (.tmp Z)) ⟨_, Z, ((vbool _)), hC21.bx⟩
        ·
         obtain rfl := hbb3.trans hc7
         refine cw_false Z (cw_skip (ew_then (cw_seq (cw_region (lw_op Z Z Z (ow_loadOwnA Z Z Z ho37 (Tryd.isAgg27 _) (Tryd.sizeOf27 _) Z ?_))))))
         have hz13 := (((hz8.trans hl18).trans hl19).trans hl20)
         have hw11 : VRep RBox w20 (Add g2 (Add g1 M)) ({ Sides := x1.2.Sides } : Box) (.agg #[(.slice A2 x1.2.Sides.length c2)]) := shut_Box (VRep.mono hz13 hw2)
         refine lw_op Z Z Z (ow_load (R := RBox) Z Z (ARep.mono (hz10.trans hl20) hp1) (Tryd.sizeOf27 _) (Tryd.isAgg27 _) fun v21 hv21 => ?_)
         replace h := bind_some h
         obtain ⟨x10, hx10, h⟩ := h
         refine lw_op Z Z Z (ow_call Z Z Tryd.call28 (w_impl_BoxMeet (hG.mono (hz11.trans hl20)) hC20.old hw11 hv21 hx10) fun v22 w22 hv22 => ?_)
         obtain ⟨hv22, hb17⟩ := hv22
         have hl22 := Le.no (Add g2 (Add g1 M)) hb17
         have hC22 := hC20.no hb17
         have ho40 := ho36.no hb17
         refine lw_allocStore (R := RBox) Z Z Z Z Z Z Z Tryd.zeroValue27 Tryd.sizeOf27 Z Z Z (by simp) hv22 hC22 fun p3 w23 hp3 hb18 hl23 hC23 => ?_
         have ho42 := ho40.no hb18
         refine lw_nil (ew_then (cw_seq ?_))
         replace h := cond_some h
         rcases h with ⟨hc8, h⟩ | ⟨hc8, h⟩
         ·
          refine cw_sub (E' := [(4, (.bool false)), (5, (.pointer (some ⟨g1, 0, none⟩))), (7, (.pointer (some p1))), (8, (.pointer (some p2))), (9, (.pointer (some p3)))]) ⟨Z, Z, Z, Z, Z, trivial⟩ (cw_drawQ 10 [PA (RSlice (RSlice RSpan)) (Add g2 (Add g1 M)) x10.Sides, PV (RSlice (RSlice RSpan)) (Add g2 (Add g1 M)) x10.Sides, PEq (.int .i64 (x10.Sides.length : Int)), PEq (.bool true), PEq (.bool true), PEq undef, PEq undef, PEq undef, PEq undef, PEq undef] (by kernel_rfl) Z (by kernel_rfl) ⟨PA.mono _ _ _, PV.mono _ _ _, PEq.mono _, PEq.mono _, PEq.mono _, PEq.mono _, PEq.mono _, PEq.mono _, PEq.mono _, PEq.mono _, trivial⟩ ⟨?_, ?_, ?_, ?_, ?_, ?_, ?_, ?_, ?_, ?_, trivial⟩ ?_)
          ·
           intro w24 D hS6 hd6
           have hl24 := Le.no (Add g2 (Add g1 M)) hS6
           exact dg_sub (E' := [(9, (.pointer (some p3)))]) ⟨Z, trivial⟩ (dg_plain Z (ow_fieldAddr Z Z Tryd.underlying27 Z (Tryd.sizeOf25 _) ⟨BX.refl _ _, ⟨_, Z, (ARep.mono hl24 (hp3.fld fld_Box_Sides))⟩⟩))
          ·
           intro w25 D hS7 hd7
           have d7 : PA (RSlice (RSlice RSpan)) (Add g2 (Add g1 M)) x10.Sides (D 0) w25 := dpA hd7 0 Z
           obtain ⟨p4, e1, ha1⟩ := d7
           exact dg_sub (E' := [(57, (.pointer (some p4)))]) ⟨(congrArg some e1), trivial⟩ (dg_plain Z (ow_load (R := (RSlice (RSlice RSpan))) Z Z ha1 (Tryd.sizeOf25 _) (Tryd.isAgg25 _) fun v24 hv24 => ⟨BX.refl _ _, hv24⟩))
          ·
           intro w26 D hS8 hd8
           have d8 : PV (RSlice (RSlice RSpan)) (Add g2 (Add g1 M)) x10.Sides (D 1) w26 := dpA hd8 1 Z
           generalize hq5 : (D 1) = v25 at d8
           exact dg_sub (E' := [(58, v25)]) ⟨(congrArg some hq5), trivial⟩ (dg_plain Z (ow_len Z Z d8 Tryd.underlying25 Z ⟨BX.refl _ _, Z⟩))
          ·
           intro w27 D hS9 hd9
           refine dg_sub (E' := [(59, (.int .i64 (x10.Sides.length : Int)))]) ⟨(dpE hd9 2 Z Z), trivial⟩ (dg_plain Z (ow_eqlI Z Z Z fun bb5 hbb5 => ?_))
           obtain rfl := hbb5.trans hc8
           exact ⟨BX.refl _ _, Z⟩
          ·
           intro w28 D hS10 hd10
           exact dg_sub (E' := [(60, (.bool true))]) ⟨(dpE hd10 3 Z Z), trivial⟩ (dg_plain Z (ow_move Z Z ⟨BX.refl _ _, Z⟩))
          ·
           intro w29 D hS11 hd11
           exact dg_sub (E' := [(61, (.bool true)), (8, (.pointer (some p2)))]) ⟨(dpE hd11 4 Z Z), Z, trivial⟩ (dg_off Z Z Z Z ⟨BX.refl _ _, Z⟩)
          ·
           intro w30 D hS12 hd12
           exact dg_sub (E' := [(61, (.bool true)), (7, (.pointer (some p1)))]) ⟨(dpE hd12 4 Z Z), Z, trivial⟩ (dg_off Z Z Z Z ⟨BX.refl _ _, Z⟩)
          ·
           intro w31 D hS13 hd13
           exact dg_sub (E' := [(62, undef), (63, undef), (61, (.bool true))]) ⟨(dpE hd13 5 Z Z), (dpE hd13 6 Z Z), (dpE hd13 4 Z Z), trivial⟩ (dg_off Z Z Z Z ⟨BX.refl _ _, Z⟩)
          ·
           intro w32 D hS14 hd14
           exact dg_sub (E' := [(61, (.bool true)), (5, (.pointer (some ⟨g1, 0, none⟩)))]) ⟨(dpE hd14 4 Z Z), Z, trivial⟩ (dg_off Z Z Z Z ⟨BX.refl _ _, Z⟩)
          ·
           intro w33 D hS15 hd15
           exact dg_sub (E' := [(61, (.bool true)), (9, (.pointer (some p3)))]) ⟨(dpE hd15 4 Z Z), Z, trivial⟩ (dg_off Z Z Z Z ⟨BX.refl _ _, Z⟩)
          ·
           intro w34 D hS16 hd16
           have hC34 := hC23.no hS16
           refine lw_sub (E' := [(61, (.bool true)), (64, undef), (65, undef), (66, undef), (4, (.bool false)), (5, (.pointer (some ⟨g1, 0, none⟩))), (7, (.pointer (some p1))), (8, (.pointer (some p2))), (9, (.pointer (some p3)))]) ⟨(dpE hd16 4 Z Z), (dpE hd16 7 Z Z), (dpE hd16 8 Z Z), (dpE hd16 9 Z Z), Z, Z, Z, Z, Z, trivial⟩ (lw_off Z Z Z Z Z Z (lw_off Z Z Z Z Z Z (lw_op Z Z Z (ow_pickT Z Z Z (lw_op Z Z Z (ow_assign Z Z (lw_nil (ew_then (cw_ret ?_)))))))))
           obtain rfl := Option.some.inj h
           exact ew_ret (res1 Z (.tmp Z)) ⟨_, Z, ((vbool _)), hC34.bx⟩
         ·
          replace h := bind_some h
          obtain ⟨x11, hx11, h⟩ := h
          have hz23 := (((hz11.trans hl20).trans hl22).trans hl23)
          have hz24 := ((hz13.trans hl22).trans hl23)
          have hz25 := (((hz10.trans hl20).trans hl22).trans hl23)
          have hz26 := ((hz12.trans hl22).trans hl23)
          refine cw_sub (E' := [(4, (.bool false)), (5, (.pointer (some ⟨g1, 0, none⟩))), (7, (.pointer (some p1))), (8, (.pointer (some p2))), (9, (.pointer (some p3)))]) ⟨Z, Z, Z, Z, Z, trivial⟩ (cw_drawQ 10 [PA (RSlice (RSlice RSpan)) (Add g2 (Add g1 M)) x10.Sides, PV (RSlice (RSlice RSpan)) (Add g2 (Add g1 M)) x10.Sides, PEq (.int .i64 (x10.Sides.length : Int)), PEq (.bool false), PEq (.bool false), PV RBox (Add g2 (Add g1 M)) x3, PV RBox (Add g2 (Add g1 M)) x2, PV RBox (Add g2 (Add g1 M)) x11, PV RBox (Add g2 (Add g1 M)) ({ Sides := x1.1.Sides } : Box), PV RBox (Add g2 (Add g1 M)) x10] (by kernel_rfl) Z (by kernel_rfl) ⟨PA.mono _ _ _, PV.mono _ _ _, PEq.mono _, PEq.mono _, PEq.mono _, PV.mono _ _ _, PV.mono _ _ _, PV.mono _ _ _, PV.mono _ _ _, PV.mono _ _ _, trivial⟩ ⟨?_, ?_, ?_, ?_, ?_, ?_, ?_, ?_, ?_, ?_, trivial⟩ ?_)
          ·
           intro w36 D hS17 hd17
           have hl36 := Le.no (Add g2 (Add g1 M)) hS17
           exact dg_sub (E' := [(9, (.pointer (some p3)))]) ⟨Z, trivial⟩ (dg_plain Z (ow_fieldAddr Z Z Tryd.underlying27 Z (Tryd.sizeOf25 _) ⟨BX.refl _ _, ⟨_, Z, (ARep.mono hl36 (hp3.fld fld_Box_Sides))⟩⟩))
          ·
           intro w37 D hS18 hd18
           have d29 : PA (RSlice (RSlice RSpan)) (Add g2 (Add g1 M)) x10.Sides (D 0) w37 := dpA hd18 0 Z
           obtain ⟨p5, e2, ha2⟩ := d29
           exact dg_sub (E' := [(57, (.pointer (some p5)))]) ⟨(congrArg some e2), trivial⟩ (dg_plain Z (ow_load (R := (RSlice (RSlice RSpan))) Z Z ha2 (Tryd.sizeOf25 _) (Tryd.isAgg25 _) fun v30 hv30 => ⟨BX.refl _ _, hv30⟩))
          ·
           intro w38 D hS19 hd19
           have d30 : PV (RSlice (RSlice RSpan)) (Add g2 (Add g1 M)) x10.Sides (D 1) w38 := dpA hd19 1 Z
           generalize hq6 : (D 1) = v31 at d30
           exact dg_sub (E' := [(58, v31)]) ⟨(congrArg some hq6), trivial⟩ (dg_plain Z (ow_len Z Z d30 Tryd.underlying25 Z ⟨BX.refl _ _, Z⟩))
          ·
           intro w39 D hS20 hd20
           refine dg_sub (E' := [(59, (.int .i64 (x10.Sides.length : Int)))]) ⟨(dpE hd20 2 Z Z), trivial⟩ (dg_plain Z (ow_eqlI Z Z Z fun bb6 hbb6 => ?_))
           obtain rfl := hbb6.trans hc8
           exact ⟨BX.refl _ _, Z⟩
          ·
           intro w40 D hS21 hd21
           exact dg_sub (E' := [(60, (.bool false))]) ⟨(dpE hd21 3 Z Z), trivial⟩ (dg_plain Z (ow_move Z Z ⟨BX.refl _ _, Z⟩))
          ·
           intro w41 D hS22 hd22
           have hl41 := Le.no (Add g2 (Add g1 M)) hS22
           exact dg_sub (E' := [(61, (.bool false)), (8, (.pointer (some p2)))]) ⟨(dpE hd22 4 Z Z), Z, trivial⟩ (dg_on Z Z Z Z (ow_load (R := RBox) Z Z (ARep.mono (hz26.trans hl41) hp2) (Tryd.sizeOf27 _) (Tryd.isAgg27 _) fun v32 hv32 => ⟨BX.refl _ _, hv32⟩))
          ·
           intro w42 D hS23 hd23
           have hl42 := Le.no (Add g2 (Add g1 M)) hS23
           exact dg_sub (E' := [(61, (.bool false)), (7, (.pointer (some p1)))]) ⟨(dpE hd23 4 Z Z), Z, trivial⟩ (dg_on Z Z Z Z (ow_load (R := RBox) Z Z (ARep.mono (hz25.trans hl42) hp1) (Tryd.sizeOf27 _) (Tryd.isAgg27 _) fun v33 hv33 => ⟨BX.refl _ _, hv33⟩))
          ·
           intro w43 D hS24 hd24
           have hl43 := Le.no (Add g2 (Add g1 M)) hS24
           have hC43 := hC23.no hS24
           have d35 : PV RBox (Add g2 (Add g1 M)) x3 (D 5) w43 := dpA hd24 5 Z
           have d36 : PV RBox (Add g2 (Add g1 M)) x2 (D 6) w43 := dpA hd24 6 Z
           generalize hq7 : (D 5) = v34 at d35
           generalize hq8 : (D 6) = v35 at d36
           refine dg_sub (E' := [(62, v34), (63, v35), (61, (.bool false))]) ⟨(congrArg some hq7), (congrArg some hq8), (dpE hd24 4 Z Z), trivial⟩ (dg_on Z Z Z Z (ow_call Z Z Tryd.call28 (w_impl_BoxMeet (hG.mono (hz23.trans hl43)) hC43.old d35 d36 hx11) fun v36 w44 hv36 => ?_))
           obtain ⟨hv36, hb20⟩ := hv36
           exact ⟨hb20, hv36⟩
          ·
           intro w45 D hS25 hd25
           have hl45 := Le.no (Add g2 (Add g1 M)) hS25
           have ho86 := ho42.no hS25
           refine dg_sub (E' := [(61, (.bool false)), (5, (.pointer (some ⟨g1, 0, none⟩)))]) ⟨(dpE hd25 4 Z Z), Z, trivial⟩ (dg_on Z Z Z Z (ow_loadOwnA Z Z Z ho86 (Tryd.isAgg27 _) (Tryd.sizeOf27 _) Z ?_))
           have hw13 : VRep RBox w45 (Add g2 (Add g1 M)) ({ Sides := x1.1.Sides } : Box) (.agg #[(.slice A1 x1.1.Sides.length c1)]) := shut_Box (VRep.mono (hz24.trans hl45) hw1)
           exact ⟨BX.refl _ _, hw13⟩
          ·
           intro w46 D hS26 hd26
           have hl46 := Le.no (Add g2 (Add g1 M)) hS26
           exact dg_sub (E' := [(61, (.bool false)), (9, (.pointer (some p3)))]) ⟨(dpE hd26 4 Z Z), Z, trivial⟩ (dg_on Z Z Z Z (ow_load (R := RBox) Z Z (ARep.mono hl46 hp3) (Tryd.sizeOf27 _) (Tryd.isAgg27 _) fun v37 hv37 => ⟨BX.refl _ _, hv37⟩))
          ·
           intro w47 D hS27 hd27
           have d48 : PV RBox (Add g2 (Add g1 M)) x11 (D 7) w47 := dpA hd27 7 Z
           have d49 : PV RBox (Add g2 (Add g1 M)) ({ Sides := x1.1.Sides } : Box) (D 8) w47 := dpA hd27 8 Z
           have d50 : PV RBox (Add g2 (Add g1 M)) x10 (D 9) w47 := dpA hd27 9 Z
           have hl47 := Le.no (Add g2 (Add g1 M)) hS27
           have hC47 := hC23.no hS27
           generalize hq9 : (D 7) = v38 at d48
           generalize hq10 : (D 8) = v39 at d49
           generalize hq11 : (D 9) = v40 at d50
           refine lw_sub (E' := [(61, (.bool false)), (64, v38), (65, v39), (66, v40), (4, (.bool false)), (5, (.pointer (some ⟨g1, 0, none⟩))), (7, (.pointer (some p1))), (8, (.pointer (some p2))), (9, (.pointer (some p3)))]) ⟨(dpE hd27 4 Z Z), (congrArg some hq9), (congrArg some hq10), (congrArg some hq11), Z, Z, Z, Z, Z, trivial⟩ ?_
           replace h := bind_some h
           obtain ⟨x12, hx12, h⟩ := h
           refine lw_on Z Z Z Z Z Z (ow_call Z Z Tryd.call28 (w_impl_BoxMeet (hG.mono (hz23.trans hl47)) hC47.old d49 d50 hx12) fun v41 w48 hv41 => ?_)
           obtain ⟨hv41, hb21⟩ := hv41
           have hl48 := Le.no (Add g2 (Add g1 M)) hb21
           have hC48 := hC47.no hb21
           replace h := bind_some h
           obtain ⟨x13, hx13, h⟩ := h
           have hz32 := ((hz23.trans hl47).trans hl48)
           refine lw_on Z Z Z Z Z Z (ow_call Z Z Tryd.call17 (w_laws_sameBox (hG.mono hz32) hC48.old (VRep.mono hl48 d48) hv41 hx13) fun v42 w49 hv42 => ?_)
           obtain ⟨hv42, hb22⟩ := hv42
           have hC49 := hC48.no hb22
           obtain rfl := vbool_eq hv42
           refine lw_op Z Z Z (ow_pickF Z Z Z (lw_op Z Z Z (ow_assign Z Z (lw_nil (ew_then (cw_ret ?_))))))
           obtain rfl := Option.some.inj h
           exact ew_ret (res1 Z (.tmp Z)) ⟨_, Z, ((vbool _)), hC49.bx⟩
       ·
        subst hc6
        refine lw_off Z Z Z Z Z Z (lw_off Z Z Z Z Z Z (lw_off Z Z Z Z Z Z (lw_off Z Z Z Z Z Z (lw_op Z Z Z (ow_pickT Z Z Z (lw_nil (ew_then (cw_true Z (cw_seq (cw_region ?_))))))))))
        replace h := bind_some h
        obtain ⟨x14, hx14, h⟩ := h
        refine lw_op Z Z Z (ow_call Z Z Tryd.call19 (w_laws_alive (hG.mono (hz11.trans hl20)) hC20.old hx14) fun v43 w50 hv43 => ?_)
        obtain ⟨hv43, hb23⟩ := hv43
        have hC50 := hC20.no hb23
        obtain rfl := vbool_eq hv43
        refine lw_op Z Z Z (ow_assign Z Z (lw_nil (ew_then (cw_ret (ew_thenR ?_)))))
        obtain rfl := Option.some.inj h
        exact ew_ret (res1 Z (.tmp Z)) ⟨_, Z, ((vbool _)), hC50.bx⟩
      ·
       subst hc5
       refine lw_off Z Z Z Z Z Z (lw_off Z Z Z Z Z Z (lw_off Z Z Z Z Z Z (lw_op Z Z Z (ow_pickT Z Z Z (lw_op Z Z Z (ow_move Z Z (lw_off Z Z Z Z Z Z (lw_off Z Z Z Z Z Z (lw_off Z Z Z Z Z Z (lw_off Z Z Z Z Z Z (lw_op Z Z Z (ow_pickT Z Z Z (lw_nil (ew_then (cw_true Z (cw_seq (cw_region ?_)))))))))))))))))
       replace h := bind_some h
       obtain ⟨x15, hx15, h⟩ := h
       have hz33 := ((hz9.trans hl18).trans hl19)
       refine lw_op Z Z Z (ow_call Z Z Tryd.call19 (w_laws_alive (hG.mono hz33) hC19.old hx15) fun v44 w51 hv44 => ?_)
       obtain ⟨hv44, hb24⟩ := hv44
       have hC51 := hC19.no hb24
       obtain rfl := vbool_eq hv44
       refine lw_op Z Z Z (ow_assign Z Z (lw_nil (ew_then (cw_ret (ew_thenR ?_)))))
       obtain rfl := Option.some.inj h
       exact ew_ret (res1 Z (.tmp Z)) ⟨_, Z, ((vbool _)), hC51.bx⟩
     ·
      subst hc4
      refine lw_off Z Z Z Z Z Z (lw_off Z Z Z Z Z Z (lw_off Z Z Z Z Z Z (lw_op Z Z Z (ow_pickT Z Z Z (lw_op Z Z Z (ow_move Z Z (lw_off Z Z Z Z Z Z (lw_off Z Z Z Z Z Z (lw_off Z Z Z Z Z Z (lw_op Z Z Z (ow_pickT Z Z Z (lw_op Z Z Z (ow_move Z Z (lw_off Z Z Z Z Z Z (lw_off Z Z Z Z Z Z (lw_off Z Z Z Z Z Z (lw_off Z Z Z Z Z Z (lw_op Z Z Z (ow_pickT Z Z Z (lw_nil (ew_then (cw_true Z (cw_seq (cw_region ?_))))))))))))))))))))))))
      replace h := bind_some h
      obtain ⟨x16, hx16, h⟩ := h
      refine lw_op Z Z Z (ow_call Z Z Tryd.call19 (w_laws_alive (hG.mono (hz9.trans hl18)) hC18.old hx16) fun v45 w52 hv45 => ?_)
      obtain ⟨hv45, hb25⟩ := hv45
      have hC52 := hC18.no hb25
      obtain rfl := vbool_eq hv45
      refine lw_op Z Z Z (ow_assign Z Z (lw_nil (ew_then (cw_ret (ew_thenR ?_)))))
      obtain rfl := Option.some.inj h
      exact ew_ret (res1 Z (.tmp Z)) ⟨_, Z, ((vbool _)), hC52.bx⟩
    ·
     subst hc3
     refine cw_true Z (cw_seq (cw_region (lw_op Z Z Z (ow_assign Z Z (lw_nil (ew_then (cw_ret (ew_thenR ?_))))))))
     obtain rfl := Option.some.inj h
     exact ew_ret (res1 Z (.tmp Z)) ⟨_, Z, ((vbool _)), hC17.bx⟩


end Go.PF
